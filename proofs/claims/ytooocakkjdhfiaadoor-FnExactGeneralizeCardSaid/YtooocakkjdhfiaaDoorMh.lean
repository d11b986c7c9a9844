/- Marked terms are found marked.. -/
import Derived.Test.YtooocakkjdhfiaaDoorMm
namespace Go.Proofs.YtooocakkjdhfiaaDoor
set_option maxRecDepth 100000
open Go.RowKit

theorem Tm.mks_get : ∀ (ts : List Tm) (k j : Nat) (h : j < ts.length) (h' : j < (Tm.mks ts k).length), (Tm.mks ts k)[j] = Tm.mke ts[j] (k + Tm.sizes (ts.take j))
  | [], k, j, h, _ => absurd h (by simp)
  | t :: ts, k, 0, _, _ => by simp [Tm.mks, Tm.sizes]
  | t :: ts, k, j + 1, h, h' => by
    have ih := Tm.mks_get ts (k + t.size) j (by simpa using h) (by rw [Tm.mks_length]; simpa using h)
    simp only [Tm.mks, List.getElem_cons_succ, List.take_succ_cons, Tm.sizes]
    rw [ih, Nat.add_assoc]

def HeldS (ts : List Tm) : Prop := ∀ (k : Nat) (S : Nat → Prop) (v : Value) (w : World), k + Tm.sizes ts ≤ 1099511627776 → D.rd S w v (Tm.sd (Tm.mks ts k)) →
  Calls Tryd.prog 19 #[v, .int .i64 k] w (Gives w (.int .i64 (k + Tm.sizes ts : Nat)))
set_option maxHeartbeats 2000000 in
theorem heldTermS_of (ts : List Tm) (h : ∀ t ∈ ts, HeldS t.args) : HeldS ts := by
  intro k S v w hk hr
  have hl := Tm.mks_length ts k
  obtain ⟨a, cap, rfl, hlen, hcap⟩ := Tm.sd_form hr
  rw [hl] at hlen hcap ⊢
  rw [hl] at hr
  unfold big at hlen
  go_enter Tryd.func19, Tryd.ntmps19
  go_wp2_with fail
  go_loopw [1, 5] (fun x i wr => ∃ j : Nat, j ≤ ts.length ∧ i = .int .i64 j ∧ x = .int .i64 (k + Tm.sizes (ts.take j) : Nat) ∧ Below w.heap.size w wr) (fun _ i _ => ts.length - (intOf i).toNat)
  case atStart => exact ⟨0, Nat.zero_le _, rfl, by simp [Tm.sizes], Below.refl _ _⟩
  case round =>
    obtain ⟨j, hj, rfl, rfl, hb⟩ := hrel
    by_cases hlt : j < ts.length
    · have hst := Tm.sizes_take ts j hlt
      have hsl := Tm.sizes_le ts (j + 1)
      have hg := Tm.mks_get ts k j hlt (by omega)
      obtain ⟨q, HQ⟩ : ∃ q, Hid (k + Tm.sizes (ts.take j) = q) := ⟨_, hid rfl⟩
      rw [HQ.out] at hg ⊢
      have hsz : ts[j].size = 1 + Tm.sizes ts[j].args := by cases ts[j]; rw [Tm.size]; rfl
      have hq : q + 1 + Tm.sizes ts[j].args ≤ 1099511627776 := by have := HQ.out; omega
      have HE : Hid (q + 1 + Tm.sizes ts[j].args = k + Tm.sizes (ts.take (j + 1))) := by have := HQ.out; show _ = _; omega
      have hne : Tm.mks ts k ≠ [] := by intro e; rw [e] at hl; simp at hl; omega
      obtain ⟨b, off, rfl, hS, hbl, hrr⟩ := Tm.sd_get hr hne
      obtain ⟨c0, c1, q0, q1, q2⟩ := hrr j (by omega)
      obtain ⟨us, HUS⟩ : ∃ us, Hid (Tm.mks ts[j].args (q + 1) = us) := ⟨_, hid rfl⟩
      rw [hg, Tm.mke_eq, HUS.out] at q2
      obtain ⟨rfl, -, x, xc, rfl⟩ := Tm.at_form q2
      replace q0 := (hb.cell (p := ⟨b, off + j * 2, none⟩) hbl).trans q0
      replace q1 := (hb.cell (p := ⟨b, off + j * 2 + 1, none⟩) hbl).trans q1
      have q3 := D.rd_keep (Keeps.all hb) _ _ q2.2
      simp only [Tm.name, Tm.args] at q0 q1 q3
      have hbr : b < wr.heap.size := Nat.lt_of_lt_of_le hbl hb.size
      have Hr := hid hr
      clear hst hsl hsz hg hrr q2 hne hr
      go_wp2_with fail
      refine wp_region_B [fun v _ => v = .slice (some ⟨b, off, none⟩) ts.length cap, fun v _ => v = .int .i64 j, fun v _ => v = .pointer (some ⟨b, off + j * 2, none⟩), fun v _ => v = .pointer (some ⟨b, off + j * 2, none⟩), fun v _ => v = .string (bs (mtext q)), fun v _ => v = .int .i64 q, fun v _ => v = .string (bs (mtext q)), fun v _ => v = .bool false] _ (fun V => by simp [putAll, Act.put]; rfl) (by kernel_rfl) (by decide) (by simp) (by kernel_rfl) ?_ ?_ ?_
      · intro F hF
        simp only [List.mem_cons, List.not_mem_nil, or_false] at hF
        rcases hF with rfl | rfl | rfl | rfl | rfl | rfl | rfl | rfl
        · exact stable_eq
        · exact stable_eq
        · exact stable_eq
        · exact stable_eq
        · exact stable_eq
        · exact stable_eq
        · exact stable_eq
        · exact stable_eq
      · refine ⟨?_, ?_, ?_, ?_, ?_, ?_, ?_, ?_, trivial⟩
        · intro V w1 hbR _
          unfold Does
          go_simp
          exact ⟨Below.refl _ _, rfl⟩
        · intro V w1 hbR _
          unfold Does
          go_simp
          exact ⟨Below.refl _ _, rfl⟩
        · intro V w1 hbR ⟨f0, f1, _⟩
          replace f0 : V 0 = .slice (some ⟨b, off, none⟩) ts.length cap := f0
          replace f1 : V 1 = .int .i64 j := f1
          unfold Does
          go_simp
          exact ⟨Below.refl _ _, rfl⟩
        · intro V w1 hbR ⟨f2, _⟩
          replace f2 : V 2 = .pointer (some ⟨b, off + j * 2, none⟩) := f2
          unfold Does
          go_simp
          exact ⟨Below.refl _ _, rfl⟩
        · intro V w1 hbR ⟨f3, _⟩
          replace f3 : V 3 = .pointer (some ⟨b, off + j * 2, none⟩) := f3
          obtain ⟨hc, hf⟩ := bcell hbR
          try simp only [World.size_alloc, World.size_setCell] at hc hf
          unfold Does
          go_simp
          exact ⟨Below.refl _ _, rfl⟩
        · intro V w1 hbR _
          unfold Does
          go_simp
          exact ⟨Below.refl _ _, rfl⟩
        · intro V w1 hbR ⟨f5, _⟩
          replace f5 : V 5 = .int .i64 q := f5
          obtain ⟨hc, hf⟩ := bcell hbR
          try simp only [World.size_alloc, World.size_setCell] at hc hf
          unfold Does
          go_simp
          exact markText_any q (by omega) w1
        · intro V w1 hbR ⟨f4, f6, _⟩
          replace f4 : V 4 = .string (bs (mtext q)) := f4
          replace f6 : V 6 = .string (bs (mtext q)) := f6
          unfold Does
          go_simp
          exact ⟨Below.refl _ _, rfl⟩
      intro V w3 hbR hfR
      obtain ⟨f0, f1, f2, f3, f4, f5, f6, f7, _⟩ := hfR
      replace f0 : V 0 = .slice (some ⟨b, off, none⟩) ts.length cap := f0
      replace f1 : V 1 = .int .i64 j := f1
      replace f2 : V 2 = .pointer (some ⟨b, off + j * 2, none⟩) := f2
      replace f3 : V 3 = .pointer (some ⟨b, off + j * 2, none⟩) := f3
      replace f4 : V 4 = .string (bs (mtext q)) := f4
      replace f5 : V 5 = .int .i64 q := f5
      replace f6 : V 6 = .string (bs (mtext q)) := f6
      replace f7 : V 7 = .bool false := f7
      simp only [f0, f1, f2, f3, f4, f5, f6, f7]
      clear f0 f1 f2 f3 f4 f5 f6 f7
      replace q1 := (hbR.cell (p := ⟨b, off + j * 2 + 1, none⟩) hbr).trans q1
      replace q3 := D.rd_keep (Keeps.all hbR) _ _ q3
      have HR := h ts[j] (List.getElem_mem hlt) (q + 1) _ (.slice x us.length xc) w3 (by omega) (by rw [HUS.out]; exact q3)
      rw [show ((q + 1 : Nat) : Int) = (q : Int) + 1 from by omega] at HR
      go_wp2_with fail
      refine HR.mono ?_
      rintro e w2 ⟨_, rfl, hb2, rfl⟩
      rw [HE.out]
      clear HR q3 q1 q0
      go_wp2_with fail
      go_roundw
      case rel => exact ⟨j + 1, by omega, by go_num, rfl, (hb.trans (hbR.mono hb.size)).trans (hb2.mono (Nat.le_trans hb.size hbR.size))⟩
      case measure => simp [intOf]; omega
    · obtain rfl : j = ts.length := by omega
      go_wp2_with fail
      go_ret
      exact Gives.mk (by rw [List.take_length]; rfl) hb
theorem heldTermS_any (ts : List Tm) : HeldS ts := by
  have key : ∀ t : Tm, HeldS t.args := fun t => Tm.ind (P := fun t => HeldS t.args) (fun n ts h => heldTermS_of ts h) t
  exact key (.node ByteArray.empty ts)
end Go.Proofs.YtooocakkjdhfiaaDoor
