/- The reference and the program compare terms: both tell whether the two trees are one. -/
import Derived.Test.YtooocakkjdhfiaaDoorRows
import Derived.Test.YtooocakkjdhfiaaDoorTm
import Derived.Test.YtooocakkjdhfiaaDoorReg
import Derived.WalkSpells
import Derived.WalkLawsBesides
namespace Go.Proofs.YtooocakkjdhfiaaDoor
set_option maxRecDepth 100000
open Go.RowKit

/-- f tells whether two terms are one -/
def Tells (f : FuncId) (t : Tm) : Prop := ∀ (u : Tm) (S : Nat → Prop) (c0 c1 d0 d1 : Value) (w : World), Tm.at S w c0 c1 t → Tm.at S w d0 d1 u → Calls Tryd.prog f #[.agg #[c0, c1], .agg #[d0, d1]] w fun e w' => e = .returned (.bool (Tm.eqb t u)) ∧ Below w.heap.size w w'

theorem Tm.eqb_name {n m : ByteArray} {ts us : List Tm} (h : n ≠ m) : Tm.eqb (.node n ts) (.node m us) = false := by simp [Tm.eqb, h]
theorem Tm.eqb_args (n : ByteArray) (ts us : List Tm) : Tm.eqb (.node n ts) (.node n us) = Tm.eqbs ts us := by simp [Tm.eqb]

set_option maxHeartbeats 400000 in
theorem l2Same_of (n : ByteArray) (ts : List Tm) (h : ∀ t ∈ ts, Tells 23 t) : Tells 23 (.node n ts) := by
  intro u S c0 c1 d0 d1 w hr hr'
  obtain ⟨m, us⟩ := u
  obtain ⟨rfl, hn, -⟩ := Tm.at_form hr
  obtain ⟨rfl, hm, -⟩ := Tm.at_form hr'
  have hs := hr.2
  have hs' := hr'.2
  simp only [Tm.name, Tm.args] at hs hs' hn hm ⊢
  clear hr hr'
  obtain ⟨a, cap, rfl, hlen, hcap⟩ := Tm.sd_form hs
  obtain ⟨a', cap', rfl, hlen', hcap'⟩ := Tm.sd_form hs'
  unfold big at hlen hlen'
  by_cases hnm : n = m
  · subst hnm
    have HN := hid (Tm.eqb_args n ts us)
    by_cases hll : ts.length = us.length
    · rw [← hll] at hs' hlen' hcap' ⊢
      have HL := hid hll
      clear hll
      go_enter Tryd.func23, Tryd.ntmps23
      go_wp2_with fail
      go_loopw [5] (fun i wr => ∃ (k : Nat), k ≤ ts.length ∧ i = .int .i64 k ∧ Hid (ts.take k = us.take k) ∧ Below (w.heap.size + 1 + 1) ((w.alloc (.cells #[.string n, .slice a ts.length cap] 28)).alloc (.cells #[.string n, .slice a' ts.length cap'] 28)) wr) (fun i _ => ts.length - (intOf i).toNat)
      case atStart => exact ⟨0, Nat.zero_le _, rfl, by simp [Hid], Below.refl _ _⟩
      case round =>
        obtain ⟨k, hk, rfl, HX, hb⟩ := hrel
        have hbw : Below w.heap.size w wr := (((Below.refl _ _).alloc (Nat.le_refl _) _).alloc (by simp) _).trans (hb.mono (by omega))
        have hz := hb.size
        simp only [World.size_alloc] at hz
        have e20 : wr.cell? ⟨w.heap.size, 0, none⟩ = some (.string n) := (hb.cell (by simp; omega)).trans (box2 _ _ _ _ _ _).1
        have e21 : wr.cell? ⟨w.heap.size, 1, none⟩ = some (.slice a ts.length cap) := (hb.cell (by simp; omega)).trans (box2 _ _ _ _ _ _).1
        have e31 : wr.cell? ⟨w.heap.size + 1, 1, none⟩ = some (.slice a' ts.length cap') := (hb.cell (by simp)).trans (box2 _ _ _ _ _ _).2
        by_cases hlt : k < ts.length
        · have hne : ts ≠ [] := by intro e; subst e; simp at hlt
          have hlt' : k < us.length := by rw [← HL.out]; exact hlt
          have hne' : us ≠ [] := by intro e; subst e; simp at hlt'
          obtain ⟨b, off, rfl, hS, hbl, hrr⟩ := Tm.sd_get hs hne
          obtain ⟨b', off', rfl, hS', hbl', hrr'⟩ := Tm.sd_get hs' hne'
          obtain ⟨c0, c1, q0, q1, q2⟩ := hrr k hlt
          obtain ⟨d0, d1, r0, r1, r2⟩ := hrr' k hlt'
          replace q0 := (hbw.cell (p := ⟨b, off + k * 2, none⟩) hbl).trans q0
          replace q1 := (hbw.cell (p := ⟨b, off + k * 2 + 1, none⟩) hbl).trans q1
          replace q2 := Tm.at_keep (Keeps.all hbw) q2
          replace r0 := (hbw.cell (p := ⟨b', off' + k * 2, none⟩) hbl').trans r0
          replace r1 := (hbw.cell (p := ⟨b', off' + k * 2 + 1, none⟩) hbl').trans r1
          replace r2 := Tm.at_keep (Keeps.all hbw) r2
          have hmem := h ts[k] (List.getElem_mem hlt)
          clear hs hrr hs' hrr'
          have hb0 : b < wr.heap.size := by omega
          have hb0' : b' < wr.heap.size := by omega
          have hz0 : w.heap.size < wr.heap.size := by omega
          have hz1 : w.heap.size + 1 < wr.heap.size := by omega
          go_wp2_with fail
          refine wp_region_B [fun v _ => v = .pointer (some ⟨w.heap.size, 1, none⟩), fun v _ => v = .slice (some ⟨b, off, none⟩) ts.length cap, fun v _ => v = .int .i64 k, fun v _ => v = .pointer (some ⟨b, off + k * 2, none⟩), fun v _ => v = .agg #[c0, c1], fun v _ => v = .pointer (some ⟨w.heap.size + 1, 1, none⟩), fun v _ => v = .slice (some ⟨b', off', none⟩) ts.length cap', fun v _ => v = .int .i64 k, fun v _ => v = .pointer (some ⟨b', off' + k * 2, none⟩), fun v _ => v = .agg #[d0, d1], fun v _ => v = .bool (Tm.eqb ts[k] us[k]), fun v _ => v = .bool (!Tm.eqb ts[k] us[k])] _ (fun V => by simp [putAll, Act.put]; rfl) (by kernel_rfl) (by decide) (by simp) (by kernel_rfl) ?_ ?_ ?_
          · intro F hF
            simp only [List.mem_cons, List.not_mem_nil, or_false] at hF
            rcases hF with rfl | rfl | rfl | rfl | rfl | rfl | rfl | rfl | rfl | rfl | rfl | rfl
            · exact stable_eq
            · exact stable_eq
            · exact stable_eq
            · exact stable_eq
            · exact stable_eq
            · exact stable_eq
            · exact stable_eq
            · exact stable_eq
            · exact stable_eq
            · exact stable_eq
            · exact stable_eq
            · exact stable_eq
          · refine ⟨?_, ?_, ?_, ?_, ?_, ?_, ?_, ?_, ?_, ?_, ?_, ?_, trivial⟩
            · intro V w1 hbR _
              unfold Does
              go_simp
              exact ⟨Below.refl _ _, rfl⟩
            · intro V w1 hbR ⟨f0, _⟩
              replace f0 : V 0 = .pointer (some ⟨w.heap.size, 1, none⟩) := f0
              obtain ⟨hc, hf⟩ := bcell hbR
              try simp only [World.size_alloc, World.size_setCell] at hc hf
              unfold Does
              go_simp
              exact ⟨Below.refl _ _, rfl⟩
            · intro V w1 hbR _
              unfold Does
              go_simp
              exact ⟨Below.refl _ _, rfl⟩
            · intro V w1 hbR ⟨f1, f2, _⟩
              replace f1 : V 1 = .slice (some ⟨b, off, none⟩) ts.length cap := f1
              replace f2 : V 2 = .int .i64 k := f2
              unfold Does
              go_simp
              exact ⟨Below.refl _ _, rfl⟩
            · intro V w1 hbR ⟨f3, _⟩
              replace f3 : V 3 = .pointer (some ⟨b, off + k * 2, none⟩) := f3
              obtain ⟨hc, hf⟩ := bcell hbR
              try simp only [World.size_alloc, World.size_setCell] at hc hf
              unfold Does
              go_simp
              exact ⟨Below.refl _ _, rfl⟩
            · intro V w1 hbR _
              unfold Does
              go_simp
              exact ⟨Below.refl _ _, rfl⟩
            · intro V w1 hbR ⟨f5, _⟩
              replace f5 : V 5 = .pointer (some ⟨w.heap.size + 1, 1, none⟩) := f5
              obtain ⟨hc, hf⟩ := bcell hbR
              try simp only [World.size_alloc, World.size_setCell] at hc hf
              unfold Does
              go_simp
              exact ⟨Below.refl _ _, rfl⟩
            · intro V w1 hbR _
              unfold Does
              go_simp
              exact ⟨Below.refl _ _, rfl⟩
            · intro V w1 hbR ⟨f6, f7, _⟩
              replace f6 : V 6 = .slice (some ⟨b', off', none⟩) ts.length cap' := f6
              replace f7 : V 7 = .int .i64 k := f7
              unfold Does
              go_simp
              exact ⟨Below.refl _ _, rfl⟩
            · intro V w1 hbR ⟨f8, _⟩
              replace f8 : V 8 = .pointer (some ⟨b', off' + k * 2, none⟩) := f8
              obtain ⟨hc, hf⟩ := bcell hbR
              try simp only [World.size_alloc, World.size_setCell] at hc hf
              unfold Does
              go_simp
              exact ⟨Below.refl _ _, rfl⟩
            · intro V w1 hbR ⟨f4, f9, _⟩
              replace f4 : V 4 = .agg #[c0, c1] := f4
              replace f9 : V 9 = .agg #[d0, d1] := f9
              obtain ⟨hc, hf⟩ := bcell hbR
              try simp only [World.size_alloc, World.size_setCell] at hc hf
              unfold Does
              go_simp
              refine (hmem _ _ _ _ _ _ _ (Tm.at_keep (Keeps.all hbR) q2) (Tm.at_keep (Keeps.all hbR) r2)).mono ?_; rintro e w2 ⟨rfl, hb2⟩; exact ⟨_, rfl, hb2, rfl⟩
            · intro V w1 hbR ⟨f10, _⟩
              replace f10 : V 10 = .bool (Tm.eqb ts[k] us[k]) := f10
              unfold Does
              go_simp
              exact ⟨Below.refl _ _, rfl⟩
          intro V w1 hbR hfR
          obtain ⟨f0, f1, f2, f3, f4, f5, f6, f7, f8, f9, f10, f11, _⟩ := hfR
          replace f0 : V 0 = .pointer (some ⟨w.heap.size, 1, none⟩) := f0
          replace f1 : V 1 = .slice (some ⟨b, off, none⟩) ts.length cap := f1
          replace f2 : V 2 = .int .i64 k := f2
          replace f3 : V 3 = .pointer (some ⟨b, off + k * 2, none⟩) := f3
          replace f4 : V 4 = .agg #[c0, c1] := f4
          replace f5 : V 5 = .pointer (some ⟨w.heap.size + 1, 1, none⟩) := f5
          replace f6 : V 6 = .slice (some ⟨b', off', none⟩) ts.length cap' := f6
          replace f7 : V 7 = .int .i64 k := f7
          replace f8 : V 8 = .pointer (some ⟨b', off' + k * 2, none⟩) := f8
          replace f9 : V 9 = .agg #[d0, d1] := f9
          replace f10 : V 10 = .bool (Tm.eqb ts[k] us[k]) := f10
          replace f11 : V 11 = .bool (!Tm.eqb ts[k] us[k]) := f11
          simp only [f0, f1, f2, f3, f4, f5, f6, f7, f8, f9, f10, f11]
          clear f0 f1 f2 f3 f4 f5 f6 f7 f8 f9 f10 f11
          by_cases he : Tm.eqb ts[k] us[k] = true
          · have HZ := hid (Tm.eqbs_take hlt hlt' HX.out he)
            rw [he]
            go_wp2_with fail
            go_roundw
            case rel => exact ⟨k + 1, by omega, by go_num, HZ, hb.trans (hbR.mono hz)⟩
            case measure => simp [intOf]; omega
          · have he' : Tm.eqb ts[k] us[k] = false := by simpa using he
            have HZ := hid (Tm.eqbs_at hlt hlt' he')
            rw [he']
            clear he he'
            go_wp2_with fail
            go_ret
            exact ⟨ret_bool (by rw [HN.out, HZ.out]), hbw.trans (hbR.mono hbw.size)⟩
        · obtain rfl : k = ts.length := by omega
          have HY : Hid (Tm.eqbs ts us = true) := by
            have := HX.out
            rw [List.take_length, HL.out, List.take_length] at this
            rw [Hid, Tm.eqbs_iff]; exact this
          go_wp2_with fail
          go_ret
          exact ⟨ret_bool (by rw [HN.out, HY.out]), hbw⟩
    · have HY := hid (Tm.eqbs_length hll)
      go_enter Tryd.func23, Tryd.ntmps23
      go_wp2_with fail
      go_ret
      exact ⟨ret_bool (by rw [HN.out, HY.out]), ((Below.refl _ _).alloc (Nat.le_refl _) _).alloc (by simp) _⟩
  · have HX := hid (Tm.eqb_name (ts := ts) (us := us) hnm)
    have hne := toList_ne hnm
    go_enter Tryd.func23, Tryd.ntmps23
    go_wp2_with fail
    go_ret
    exact ⟨ret_bool HX.out.symm, ((Below.refl _ _).alloc (Nat.le_refl _) _).alloc (by simp) _⟩

theorem l2Same_any (t : Tm) : Tells 23 t := Tm.ind (fun n ts h => l2Same_of n ts h) t

set_option maxHeartbeats 400000 in
theorem equalFunc_of (ts : List Tm) (h : ∀ t ∈ ts, Tells 30 t) (us : List Tm) (S : Nat → Prop) (v u : Value) (w : World) (hr : D.rd S w v (Tm.sd ts)) (hr' : D.rd S w u (Tm.sd us)) :
    Calls Tryd.prog 45 #[v, u, .func (.func 30) #[] #[]] w fun e w' => e = .returned (.bool (Tm.eqbs ts us)) ∧ Below w.heap.size w w' := by
  obtain ⟨a, cap, rfl, hlen, hcap⟩ := Tm.sd_form hr
  obtain ⟨a', cap', rfl, hlen', hcap'⟩ := Tm.sd_form hr'
  unfold big at hlen hlen'
  by_cases hll : ts.length = us.length
  · rw [← hll] at hr' hlen' hcap' ⊢
    have HL := hid hll
    clear hll
    go_enter Tryd.func45, Tryd.ntmps45
    go_wp2_with fail
    go_loopw [17] (fun i wr => ∃ (k : Nat), k ≤ ts.length ∧ i = .int .i64 k ∧ Hid (ts.take k = us.take k) ∧ Below w.heap.size w wr) (fun i _ => ts.length - (intOf i).toNat)
    case atStart => exact ⟨0, Nat.zero_le _, rfl, by simp [Hid], Below.refl _ _⟩
    case round =>
      obtain ⟨k, hk, rfl, HX, hb⟩ := hrel
      by_cases hlt : k < ts.length
      · have hne : ts ≠ [] := by intro e; subst e; simp at hlt
        have hlt' : k < us.length := by rw [← HL.out]; exact hlt
        have hne' : us ≠ [] := by intro e; subst e; simp at hlt'
        obtain ⟨b, off, rfl, hS, hbl, hrr⟩ := Tm.sd_get hr hne
        obtain ⟨b', off', rfl, hS', hbl', hrr'⟩ := Tm.sd_get hr' hne'
        obtain ⟨c0, c1, q0, q1, q2⟩ := hrr k hlt
        obtain ⟨d0, d1, r0, r1, r2⟩ := hrr' k hlt'
        obtain ⟨rfl, -, x, xc, rfl⟩ := Tm.at_form q2
        obtain ⟨rfl, -, y, yc, rfl⟩ := Tm.at_form r2
        replace q0 := (hb.cell (p := ⟨b, off + k * 2, none⟩) hbl).trans q0
        replace q1 := (hb.cell (p := ⟨b, off + k * 2 + 1, none⟩) hbl).trans q1
        replace q2 := Tm.at_keep (Keeps.all hb) q2
        replace r0 := (hb.cell (p := ⟨b', off' + k * 2, none⟩) hbl').trans r0
        replace r1 := (hb.cell (p := ⟨b', off' + k * 2 + 1, none⟩) hbl').trans r1
        replace r2 := Tm.at_keep (Keeps.all hb) r2
        have r0' := cell_alloc r0
        have r1' := cell_alloc r1
        have hmem := h ts[k] (List.getElem_mem hlt)
        clear hr hrr hr' hrr'
        go_wp2_with fail
        have hbx : Below wr.heap.size wr ((wr.alloc (.cells #[.string ts[k].name, .slice x ts[k].args.length xc] 28)).alloc (.cells #[.string us[k].name, .slice y us[k].args.length yc] 28)) := ((Below.refl _ _).alloc (Nat.le_refl _) _).alloc (by simp) _
        refine (hmem _ _ _ _ _ _ _ (Tm.at_keep (Keeps.all hbx) q2) (Tm.at_keep (Keeps.all hbx) r2)).mono ?_
        rintro e w2 ⟨rfl, hb2⟩
        have hb3 : Below w.heap.size w w2 := hb.trans ((hbx.trans (hb2.mono hbx.size)).mono hb.size)
        clear hbx hb2
        by_cases he : Tm.eqb ts[k] us[k] = true
        · have HZ := hid (Tm.eqbs_take hlt hlt' HX.out he)
          rw [he]
          go_wp2_with fail
          go_roundw
          case rel => exact ⟨k + 1, by omega, by go_num, HZ, hb3⟩
          case measure => simp [intOf]; omega
        · have he' : Tm.eqb ts[k] us[k] = false := by simpa using he
          have HZ := hid (Tm.eqbs_at hlt hlt' he')
          rw [he']
          clear he he'
          go_wp2_with fail
          go_ret
          exact ⟨ret_bool HZ.out.symm, hb3⟩
      · obtain rfl : k = ts.length := by omega
        have HY : Hid (Tm.eqbs ts us = true) := by
          have := HX.out
          rw [List.take_length, HL.out, List.take_length] at this
          rw [Hid, Tm.eqbs_iff]; exact this
        go_wp2_with fail
        go_ret
        exact ⟨ret_bool HY.out.symm, hb⟩
  · have HY := hid (Tm.eqbs_length hll)
    go_enter Tryd.func45, Tryd.ntmps45
    go_wp2_with fail
    go_ret
    exact ⟨ret_bool HY.out.symm, Below.refl _ _⟩

set_option maxHeartbeats 400000 in
theorem equalTerms_of (n : ByteArray) (ts : List Tm) (h : ∀ t ∈ ts, Tells 30 t) : Tells 30 (.node n ts) := by
  intro u S c0 c1 d0 d1 w hr hr'
  obtain ⟨m, us⟩ := u
  obtain ⟨rfl, hn, -⟩ := Tm.at_form hr
  obtain ⟨rfl, hm, -⟩ := Tm.at_form hr'
  have hs := hr.2
  have hs' := hr'.2
  simp only [Tm.name, Tm.args] at hs hs' hn hm ⊢
  clear hr hr'
  have hbx : Below w.heap.size w ((w.alloc (.cells #[.string n, c1] 28)).alloc (.cells #[.string m, d1] 28)) := ((Below.refl _ _).alloc (Nat.le_refl _) _).alloc (by simp) _
  by_cases hnm : n = m
  · subst hnm
    have HN := hid (Tm.eqb_args n ts us)
    have hbq := (beq_self_eq_true n.toList)
    go_enter Tryd.func30, Tryd.ntmps30
    go_wp2_with fail
    refine (equalFunc_of ts h us S _ _ _ (D.rd_below hbx hs) (D.rd_below hbx hs')).mono ?_
    rintro e w2 ⟨rfl, hb2⟩
    have hb3 : Below w.heap.size w w2 := hbx.trans (hb2.mono hbx.size)
    clear hbx hb2
    go_wp2_with fail
    go_ret
    exact ⟨ret_bool (by rw [HN.out]), hb3⟩
  · have HX := hid (Tm.eqb_name (ts := ts) (us := us) hnm)
    have hne := toList_ne hnm
    go_enter Tryd.func30, Tryd.ntmps30
    go_wp2_with fail
    go_ret
    exact ⟨ret_bool HX.out.symm, hbx⟩
theorem equalTerms_any (t : Tm) : Tells 30 t := Tm.ind (fun n ts h => equalTerms_of n ts h) t

theorem impl_EqualTerms {t u : Tm} {S : Nat → Prop} {c0 c1 d0 d1 : Value} {w : World} (h : Tm.at S w c0 c1 t) (_ : t.bulk ≤ 1048576) (k : Tm.at S w d0 d1 u) (_ : u.bulk ≤ 1048576) :
    Calls Tryd.prog 30 #[.agg #[c0, c1], .agg #[d0, d1]] w (Gives w (.bool (Tm.eqb t u))) :=
  (equalTerms_any t u S c0 c1 d0 d1 w h k).mono fun _ _ ⟨he, hb⟩ => Gives.mk he hb
end Go.Proofs.YtooocakkjdhfiaaDoor
