/- How much of a bound a term leaves. -/
import Derived.Test.YtooocakkjdhfiaaDoorRows
import Derived.Test.YtooocakkjdhfiaaDoorTm
import Derived.WalkSpells
import Derived.WalkLawsBesides
namespace Go.Proofs.YtooocakkjdhfiaaDoor
set_option maxRecDepth 100000
open Go.RowKit

def after (n : Nat) (left : Int) : Int := if (n : Int) ≤ left then left - n else -1
theorem after_neg {n : Nat} {left : Int} (h : left < n) : after n left = -1 := by unfold after; rw [if_neg (by omega)]
theorem after_pos {n : Nat} {left : Int} (h : n ≤ left) : after n left = left - n := by unfold after; rw [if_pos h]

def SzTerm (t : Tm) : Prop := ∀ (S : Nat → Prop) (c0 c1 : Value) (left : Int) (w : World), Tm.at S w c0 c1 t → 0 ≤ left → left ≤ 1048576 →
  Calls Tryd.prog 4 #[.agg #[c0, c1], .int .i64 left] w fun e w' => e = .returned (.int .i64 (after t.bulk left)) ∧ Below w.heap.size w w'
def SzTermS (ts : List Tm) : Prop := ∀ (S : Nat → Prop) (v : Value) (left : Int) (w : World), D.rd S w v (Tm.sd ts) → 0 ≤ left → left ≤ 1048576 →
  Calls Tryd.prog 11 #[v, .int .i64 left] w fun e w' => e = .returned (.int .i64 (after (ts.length + Tm.bulks ts) left)) ∧ Below w.heap.size w w'

set_option maxHeartbeats 400000 in
theorem szTerm_of (n : ByteArray) (ts : List Tm) (h : SzTermS ts) : SzTerm (.node n ts) := by
  intro S c0 c1 left w hr h0 h1
  obtain ⟨rfl, hn, _⟩ := Tm.at_form hr
  have hs := hr.2
  simp only [Tm.name, Tm.args] at hn hs ⊢
  clear hr
  have hs' : D.rd S (w.alloc (.cells #[.string n, c1] 24)) c1 (Tm.sd ts) := D.rd_below ((Below.refl _ _).alloc (Nat.le_refl _) _) hs
  unfold maxLen at hn
  by_cases hl : left < n.size
  · have hx : left < (Tm.node n ts).bulk := by rw [Tm.bulk]; omega
    have HX := hid (after_neg hx); clear hx
    go_enter Tryd.func4, Tryd.ntmps4
    go_wp2_with fail
    go_ret
    exact ⟨ret_i64 HX.out.symm, (Below.refl _ _).alloc (Nat.le_refl _) _⟩
  · by_cases hl2 : left - n.size < ts.length + Tm.bulks ts
    · have HX := hid (after_neg (n := (Tm.node n ts).bulk) (left := left) (by rw [Tm.bulk]; omega))
      have HY := hid (after_neg (n := ts.length + Tm.bulks ts) (left := left - n.size) (by omega))
      go_enter Tryd.func4, Tryd.ntmps4
      go_wp2_with fail
      refine (h _ _ _ _ hs' (by omega) (by omega)).mono ?_
      rintro e w' ⟨rfl, hb⟩
      rw [HY.out]
      go_wp2_with fail
      go_ret
      exact ⟨ret_i64 HX.out.symm, ((Below.refl _ _).alloc (Nat.le_refl _) _).trans (hb.mono (by simp))⟩
    · have HX := hid (after_pos (n := (Tm.node n ts).bulk) (left := left) (by rw [Tm.bulk]; omega))
      have HY := hid (after_pos (n := ts.length + Tm.bulks ts) (left := left - n.size) (by omega))
      go_enter Tryd.func4, Tryd.ntmps4
      go_wp2_with fail
      refine (h _ _ _ _ hs' (by omega) (by omega)).mono ?_
      rintro e w' ⟨rfl, hb⟩
      rw [HY.out]
      go_wp2_with fail
      go_ret
      exact ⟨ret_i64 (by rw [HX.out, Tm.bulk]; omega), ((Below.refl _ _).alloc (Nat.le_refl _) _).trans (hb.mono (by simp))⟩
set_option maxHeartbeats 400000 in
theorem szTermS_of (ts : List Tm) (h : ∀ t ∈ ts, SzTerm t) : SzTermS ts := by
  intro S v left w hr h0 h1
  obtain ⟨a, cap, rfl, hlen, hcap⟩ := Tm.sd_form hr
  unfold big at hlen
  by_cases hl : left < ts.length
  · have hx : left < (ts.length + Tm.bulks ts : Nat) := by omega
    have HX := hid (after_neg hx); clear hx
    go_enter Tryd.func11, Tryd.ntmps11
    go_wp2_with fail
    go_ret
    exact ⟨ret_i64 HX.out.symm, Below.refl _ _⟩
  · go_enter Tryd.func11, Tryd.ntmps11
    go_wp2_with fail
    go_loopw [1, 5] (fun l i wr => ∃ (k : Nat) (x : Int), k ≤ ts.length ∧ i = .int .i64 k ∧ l = .int .i64 x ∧ 0 ≤ x ∧ x ≤ 1048576 ∧ Hid (x = left - (ts.length + Tm.bulks (ts.take k) : Nat)) ∧ Below w.heap.size w wr) (fun _ i _ => ts.length - (intOf i).toNat)
    case atStart => exact ⟨0, _, Nat.zero_le _, rfl, rfl, by omega, by omega, by simp [Hid, Tm.bulks], Below.refl _ _⟩
    case round =>
      obtain ⟨k, x, hk, rfl, rfl, hx0, hx1, HX, hb⟩ := hrel
      by_cases hlt : k < ts.length
      · have hne : ts ≠ [] := by intro e; subst e; simp at hlt
        obtain ⟨b, off, rfl, hS, hbl, hrr⟩ := Tm.sd_get hr hne
        obtain ⟨c0, c1, q0, q1, q2⟩ := hrr k hlt
        have q0' := (hb.cell (p := ⟨b, off + k * 2, none⟩) hbl).trans q0
        have q1' := (hb.cell (p := ⟨b, off + k * 2 + 1, none⟩) hbl).trans q1
        have q2' := Tm.at_keep (Keeps.all hb) q2
        have hmem := h ts[k] (List.getElem_mem hlt)
        have hstep := hid (Tm.bulks_take ts k hlt)
        have hstle := hid (Tm.bulks_le ts (k + 1))
        clear q0 q1 q2 hr hrr
        go_wp2_with fail
        refine (hmem _ _ _ _ _ q2' hx0 hx1).mono ?_
        rintro e w' ⟨rfl, hb'⟩
        by_cases hl2 : x < ts[k].bulk
        · have HZ : Hid (after (ts.length + Tm.bulks ts) left = -1) := after_neg (by have := HX.out; have := hstep.out; have := hstle.out; omega)
          rw [after_neg hl2]
          go_wp2_with fail
          go_ret
          exact ⟨ret_i64 HZ.out.symm, hb.trans (hb'.mono hb.size)⟩
        · have hge : (ts[k].bulk : Int) ≤ x := by omega
          have HZ : Hid (x - (ts[k].bulk : Nat) = left - (ts.length + Tm.bulks (ts.take (k + 1)) : Nat)) := by
            have := HX.out; have := hstep.out; show (_ : Int) = _; omega
          rw [after_pos hge]
          go_wp2_with fail
          go_roundw
          case rel => exact ⟨k + 1, _, by omega, by go_num, rfl, by omega, by omega, HZ, hb.trans (hb'.mono hb.size)⟩
          case measure => simp [intOf]; omega
      · obtain rfl : k = ts.length := by omega
        have HY : Hid (x = after (ts.length + Tm.bulks ts) left) := by
          have h := HX.out
          rw [List.take_length] at h
          rw [after_pos (by omega)]; exact h
        go_wp2_with fail
        go_ret
        exact ⟨ret_i64 HY.out, hb⟩

theorem szTerm_any (t : Tm) : SzTerm t := Tm.ind (fun n ts h => szTerm_of n ts (szTermS_of ts h)) t
theorem szTermS_any (ts : List Tm) : SzTermS ts := szTermS_of ts fun t _ => szTerm_any t
end Go.Proofs.YtooocakkjdhfiaaDoor
