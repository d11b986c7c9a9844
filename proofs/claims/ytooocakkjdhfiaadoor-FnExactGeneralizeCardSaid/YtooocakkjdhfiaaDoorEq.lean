/- Terms are compared. -/
import Derived.Test.YtooocakkjdhfiaaDoorRows
import Derived.Test.YtooocakkjdhfiaaDoorTm
import Derived.Test.YtooocakkjdhfiaaDoorReg
import Derived.WalkSpells
import Derived.WalkLawsBesides
namespace Go.Proofs.YtooocakkjdhfiaaDoor
set_option maxRecDepth 100000
open Go.RowKit

def EqTerm (t : Tm) : Prop := ∀ (u : Tm) (S : Nat → Prop) (c0 c1 d0 d1 : Value) (w : World), Tm.at S w c0 c1 t → Tm.at S w d0 d1 u → Calls Tryd.prog 8 #[.agg #[c0, c1], .agg #[d0, d1]] w fun e w' => e = .returned (.bool (Tm.eqb t u)) ∧ Below w.heap.size w w'
def EqTermS (ts : List Tm) : Prop := ∀ (us : List Tm) (S : Nat → Prop) (v u : Value) (w : World), D.rd S w v (Tm.sd ts) → D.rd S w u (Tm.sd us) → Calls Tryd.prog 17 #[v, u] w fun e w' => e = .returned (.bool (Tm.eqbs ts us)) ∧ Below w.heap.size w w'

set_option maxHeartbeats 400000 in
theorem eqTermS_of (ts : List Tm) (h : ∀ t ∈ ts, EqTerm t) : EqTermS ts := by
  intro us S v u w hr hr'
  obtain ⟨a, cap, rfl, hlen, hcap⟩ := Tm.sd_form hr
  obtain ⟨a', cap', rfl, hlen', hcap'⟩ := Tm.sd_form hr'
  unfold big at hlen hlen'
  by_cases hll : ts.length = us.length
  · go_enter Tryd.func17, Tryd.ntmps17
    go_wp2_with fail
    go_loopw [5] (fun i wr => ∃ (k : Nat), k ≤ ts.length ∧ i = .int .i64 k ∧ Hid (ts.take k = us.take k) ∧ Below w.heap.size w wr) (fun i _ => ts.length - (intOf i).toNat)
    case atStart => exact ⟨0, Nat.zero_le _, rfl, by simp [Hid], Below.refl _ _⟩
    case round =>
      obtain ⟨k, hk, rfl, HX, hb⟩ := hrel
      by_cases hlt : k < ts.length
      · have hne : ts ≠ [] := by intro e; subst e; simp at hlt
        have hlt' : k < us.length := by omega
        have hne' : us ≠ [] := by intro e; subst e; simp at hlt'
        
        obtain ⟨b, off, rfl, hS, hbl, hrr⟩ := Tm.sd_get hr hne
        obtain ⟨b', off', rfl, hS', hbl', hrr'⟩ := Tm.sd_get hr' hne'
        obtain ⟨c0, c1, q0, q1, q2⟩ := hrr k hlt
        obtain ⟨d0, d1, r0, r1, r2⟩ := hrr' k hlt'
        replace q0 := (hb.cell (p := ⟨b, off + k * 2, none⟩) hbl).trans q0
        replace q1 := (hb.cell (p := ⟨b, off + k * 2 + 1, none⟩) hbl).trans q1
        replace q2 := Tm.at_keep (Keeps.all hb) q2
        replace r0 := (hb.cell (p := ⟨b', off' + k * 2, none⟩) hbl').trans r0
        replace r1 := (hb.cell (p := ⟨b', off' + k * 2 + 1, none⟩) hbl').trans r1
        replace r2 := Tm.at_keep (Keeps.all hb) r2
        have hmem := h ts[k] (List.getElem_mem hlt)
        clear hr hrr hr' hrr'
        go_wp2_with fail
        have hb0 : b < wr.heap.size := Nat.lt_of_lt_of_le hbl hb.size
        have hb0' : b' < wr.heap.size := Nat.lt_of_lt_of_le hbl' hb.size
        refine wp_region_B [fun v _ => v = .slice (some ⟨b, off, none⟩) ts.length cap, fun v _ => v = .int .i64 k, fun v _ => v = .pointer (some ⟨b, off + k * 2, none⟩), fun v _ => v = .agg #[c0, c1], fun v _ => v = .slice (some ⟨b', off', none⟩) us.length cap', fun v _ => v = .int .i64 k, fun v _ => v = .pointer (some ⟨b', off' + k * 2, none⟩), fun v _ => v = .agg #[d0, d1], fun v _ => v = .bool (Tm.eqb ts[k] us[k]), fun v _ => v = .bool (!Tm.eqb ts[k] us[k])] _ (fun V => by simp [putAll, Act.put]; rfl) (by kernel_rfl) (by decide) (by simp) (by kernel_rfl) ?_ ?_ ?_
        · intro F hF
          simp only [List.mem_cons, List.not_mem_nil, or_false] at hF
          rcases hF with rfl | rfl | rfl | rfl | rfl | rfl | rfl | rfl | rfl | rfl
          · exact stable_eq
          · exact stable_eq
          · exact stable_eq
          · exact stable_eq
          · exact stable_eq
          · exact stable_eq
          · exact stable_eq
          · exact stable_eq
          · exact stable_eq
          · exact stable_eq
        · refine ⟨?_, ?_, ?_, ?_, ?_, ?_, ?_, ?_, ?_, ?_, trivial⟩
          · intro V w1 hbR _
            unfold Does
            go_simp
            exact ⟨Below.refl _ _, rfl⟩
          · intro V w1 hbR _
            unfold Does
            go_simp
            exact ⟨Below.refl _ _, rfl⟩
          · intro V w1 hbR ⟨f0, f1, _⟩
            replace f0 : V 0 = .slice (some ⟨b, off, none⟩) ts.length cap := f0
            replace f1 : V 1 = .int .i64 k := f1
            unfold Does
            go_simp
            exact ⟨Below.refl _ _, rfl⟩
          · intro V w1 hbR ⟨f2, _⟩
            replace f2 : V 2 = .pointer (some ⟨b, off + k * 2, none⟩) := f2
            obtain ⟨hc, hf⟩ := bcell hbR
            try simp only [World.size_alloc, World.size_setCell] at hc hf
            unfold Does
            go_simp
            exact ⟨Below.refl _ _, rfl⟩
          · intro V w1 hbR _
            unfold Does
            go_simp
            exact ⟨Below.refl _ _, rfl⟩
          · intro V w1 hbR _
            unfold Does
            go_simp
            exact ⟨Below.refl _ _, rfl⟩
          · intro V w1 hbR ⟨f4, f5, _⟩
            replace f4 : V 4 = .slice (some ⟨b', off', none⟩) us.length cap' := f4
            replace f5 : V 5 = .int .i64 k := f5
            unfold Does
            go_simp
            exact ⟨Below.refl _ _, rfl⟩
          · intro V w1 hbR ⟨f6, _⟩
            replace f6 : V 6 = .pointer (some ⟨b', off' + k * 2, none⟩) := f6
            obtain ⟨hc, hf⟩ := bcell hbR
            try simp only [World.size_alloc, World.size_setCell] at hc hf
            unfold Does
            go_simp
            exact ⟨Below.refl _ _, rfl⟩
          · intro V w1 hbR ⟨f3, f7, _⟩
            replace f3 : V 3 = .agg #[c0, c1] := f3
            replace f7 : V 7 = .agg #[d0, d1] := f7
            obtain ⟨hc, hf⟩ := bcell hbR
            try simp only [World.size_alloc, World.size_setCell] at hc hf
            unfold Does
            go_simp
            refine (hmem _ _ _ _ _ _ _ (Tm.at_keep (Keeps.all hbR) q2) (Tm.at_keep (Keeps.all hbR) r2)).mono ?_; rintro e w2 ⟨rfl, hb2⟩; exact ⟨_, rfl, hb2, rfl⟩
          · intro V w1 hbR ⟨f8, _⟩
            replace f8 : V 8 = .bool (Tm.eqb ts[k] us[k]) := f8
            unfold Does
            go_simp
            exact ⟨Below.refl _ _, rfl⟩
        intro V w1 hbR hfR
        obtain ⟨f0, f1, f2, f3, f4, f5, f6, f7, f8, f9, _⟩ := hfR
        replace f0 : V 0 = .slice (some ⟨b, off, none⟩) ts.length cap := f0
        replace f1 : V 1 = .int .i64 k := f1
        replace f2 : V 2 = .pointer (some ⟨b, off + k * 2, none⟩) := f2
        replace f3 : V 3 = .agg #[c0, c1] := f3
        replace f4 : V 4 = .slice (some ⟨b', off', none⟩) us.length cap' := f4
        replace f5 : V 5 = .int .i64 k := f5
        replace f6 : V 6 = .pointer (some ⟨b', off' + k * 2, none⟩) := f6
        replace f7 : V 7 = .agg #[d0, d1] := f7
        replace f8 : V 8 = .bool (Tm.eqb ts[k] us[k]) := f8
        replace f9 : V 9 = .bool (!Tm.eqb ts[k] us[k]) := f9
        simp only [f0, f1, f2, f3, f4, f5, f6, f7, f8, f9]
        clear f0 f1 f2 f3 f4 f5 f6 f7 f8 f9
        by_cases he : Tm.eqb ts[k] us[k] = true
        · have HZ := hid (Tm.eqbs_take hlt hlt' HX.out he)
          rw [he]
          go_wp2_with fail
          go_roundw
          case rel => exact ⟨k + 1, by omega, by go_num, HZ, hb.trans (hbR.mono hb.size)⟩
          case measure => simp [intOf]; omega
        · have he' : Tm.eqb ts[k] us[k] = false := by simpa using he
          have HZ := hid (Tm.eqbs_at hlt hlt' he')
          rw [he']
          clear he he'
          go_wp2_with fail
          go_ret
          exact ⟨ret_bool HZ.out.symm, hb.trans (hbR.mono hb.size)⟩
      · obtain rfl : k = ts.length := by omega
        have HY : Hid (Tm.eqbs ts us = true) := by
          have := HX.out
          rw [List.take_length, hll, List.take_length] at this
          rw [Hid, Tm.eqbs_iff]; exact this
        go_wp2_with fail
        go_ret
        exact ⟨ret_bool HY.out.symm, hb⟩
  · have HY := hid (Tm.eqbs_length hll)
    go_enter Tryd.func17, Tryd.ntmps17
    go_wp2_with fail
    go_ret
    exact ⟨ret_bool HY.out.symm, Below.refl _ _⟩

set_option maxHeartbeats 400000 in
theorem eqTerm_of (n : ByteArray) (ts : List Tm) (h : EqTermS ts) : EqTerm (.node n ts) := by
  intro u S c0 c1 d0 d1 w hr hr'
  obtain ⟨m, us⟩ := u
  obtain ⟨rfl, hn, -⟩ := Tm.at_form hr
  obtain ⟨rfl, hm, -⟩ := Tm.at_form hr'
  have hs := hr.2
  have hs' := hr'.2
  simp only [Tm.name, Tm.args] at hs hs' hn hm ⊢
  clear hr hr'
  by_cases hnm : n = m
  · subst hnm
    have HX : Hid (Tm.eqb (.node n ts) (.node n us) = Tm.eqbs ts us) := by simp [Hid, Tm.eqb]
    go_enter Tryd.func8, Tryd.ntmps8
    go_wp2_with fail
    refine (h us S _ _ _ (D.rd_keep (((Keeps.refl _ _).alloc _).alloc _) _ _ hs) (D.rd_keep (((Keeps.refl _ _).alloc _).alloc _) _ _ hs')).mono ?_
    rintro e w1 ⟨rfl, hb⟩
    have hb' : Below w.heap.size w w1 := (((Below.refl _ _).alloc (Nat.le_refl _) _).alloc (by simp) _).trans (hb.mono (by simp; omega))
    by_cases he : Tm.eqbs ts us = true
    all_goals
      first | rw [he] | rw [Bool.eq_false_iff.2 he]
      go_wp2_with fail
      go_ret
      exact ⟨ret_bool (by rw [HX.out]; simp [he]), hb'⟩
  · have HX : Hid (Tm.eqb (.node n ts) (.node m us) = false) := by simp [Hid, Tm.eqb, hnm]
    have hne := toList_ne hnm
    go_enter Tryd.func8, Tryd.ntmps8
    go_wp2_with fail
    go_ret
    exact ⟨ret_bool HX.out.symm, ((Below.refl _ _).alloc (Nat.le_refl _) _).alloc (by simp) _⟩

theorem eqTerm_any (t : Tm) : EqTerm t := Tm.ind (fun n ts h => eqTerm_of n ts (eqTermS_of ts h)) t
theorem eqTermS_any (ts : List Tm) : EqTermS ts := eqTermS_of ts fun t _ => eqTerm_any t

/-- a term against its copy -/
theorem eqTerm_refl {t : Tm} {S : Nat → Prop} {c0 c1 d0 d1 : Value} {w : World} (h : Tm.at S w c0 c1 t) (k : Tm.at S w d0 d1 t) : Calls Tryd.prog 8 #[.agg #[c0, c1], .agg #[d0, d1]] w (Gives w (.bool true)) :=
  (eqTerm_any t t S c0 c1 d0 d1 w h k).mono fun _ _ ⟨he, hb⟩ => Gives.mk (by rw [he, (Tm.eqb_iff t t).2 rfl]) hb
end Go.Proofs.YtooocakkjdhfiaaDoor
