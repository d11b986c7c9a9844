/- For every input the law FnExactFormatPosition returns true, and its argument reads behind the call as it read before it: the tied card. Conditions: the package-level variables that the row lists start as the program's text lays them. -/
import Derived.Test.YtgbfcaehijpgcaaDoorRows
import Derived.Test.YtgbfcaehijpgcaaDoorCards
import Derived.Test.YtgbfcaehijpgcaaDoorTie
import Derived.Test.YtgbfcaehijpgcaaDoorPo
import Derived.OpenShut
namespace Go.Proofs.YtgbfcaehijpgcaaDoor.fnExactFormatPosition
set_option maxRecDepth 100000
open Go Go.ChangeShapes Go.WideShapes Go.ChangeAt Go.RowKit

def Fact (w : World) : Prop := TabF w
theorem fact_of_laid {W : World} (h : laidMetH Tryd.prog Rows.fnExactFormatPositionRow.laid W) (_ : W.ShapedOpen Tryd.prog) : Fact W := tab_of (laidMetH_iff.1 h).1 rfl
theorem laidWorld_met (os : Os) (args : Array Value) : laidMetH Tryd.prog Rows.fnExactFormatPositionRow.laid ((laidWorld os).forCall (fun _ _ => 0) ⟨#[], args, []⟩).memory :=
  laidMetH_of_parts (laidMet_of_run' 8 (by kernel_rfl) (by kernel_rfl)) (by kernel_rfl)
set_option maxHeartbeats 2000000 in
theorem walk {w : World} (hF : Fact w) (v : Value) (p : List Int) (h : D.rd (fun _ => True) w v (slOf intE p)) : Calls Tryd.prog 8 #[v] w fun e w' => e = .returned (.bool true) ∧ Below w.heap.size w w' := by
  obtain ⟨r, Hr⟩ : ∃ r, Hid (fpR p = r) := ⟨_, hid rfl⟩
  obtain ⟨ok, Hok⟩ : ∃ ok, Hid (posOk p = ok) := ⟨_, hid rfl⟩
  have hT : TabF w := hF
  obtain ⟨a, c, rfl, -, -⟩ := slOf_form h
  by_cases hbp : p.length ≤ 1048576
  · have hbp' : ¬ (1048576 : Int) < p.length := by omega
    go_enter Tryd.func8, Tryd.ntmps8
    go_wp2_with fail
    refine (toIntS_is h hbp).mono ?_
    rintro e w1 ⟨_, rfl, hb1, hI⟩
    obtain ⟨a1, c1, rfl, h1⟩ := IsIS.form hI
    have hW := hb1
    replace hT := TabF.keep hT hb1
    replace h := D.rd_keep (Keeps.all hb1) _ _ h
    go_wp2_with fail
    refine (spec_FormatPosition hbp h1).mono ?_
    rintro e w2 ⟨_, rfl, hb2, rfl⟩
    rw [Hr.out, Hok.out]
    replace hW := hW.trans (hb2.mono hW.size)
    replace hT := TabF.keep hT hb2
    replace h := D.rd_keep (Keeps.all hb2) _ _ h
    go_wp2_with fail
    refine (toIntS_is h hbp).mono ?_
    rintro e w3 ⟨_, rfl, hb3, hI3⟩
    obtain ⟨a3, c3, rfl, h3⟩ := IsIS.form hI3
    replace hW := hW.trans (hb3.mono hW.size)
    replace hT := TabF.keep hT hb3
    replace h := D.rd_keep (Keeps.all hb3) _ _ h
    have hq := impl_FormatPosition hbp hT h3
    rw [Hr.out, Hok.out] at hq
    go_wp2_with fail
    refine hq.mono ?_
    rintro e w4 ⟨_, rfl, hb4, rfl⟩
    replace hW := hW.trans (hb4.mono hW.size)
    replace h := D.rd_keep (Keeps.all hb4) _ _ h
    replace h3 := D.rd_keep (Keeps.all hb4) _ _ h3
    clear hq
    go_wp2_with fail
    refine (toIntS_is h hbp).mono ?_
    rintro e w5 ⟨_, rfl, hb5, hI5⟩
    obtain ⟨a5, c5, rfl, h5⟩ := IsIS.form hI5
    replace hW := hW.trans (hb5.mono hW.size)
    replace h3 := D.rd_keep (Keeps.all hb5) _ _ h3
    go_wp2_with fail
    refine (eqIntS_refl h3 h5).mono ?_
    rintro e w6 ⟨_, rfl, hb6, rfl⟩
    replace hW := hW.trans (hb6.mono hW.size)
    go_wp2_with fail
    go_ret
    exact ⟨rfl, hW⟩
  · have hbp' : (1048576 : Int) < p.length := by omega
    go_enter Tryd.func8, Tryd.ntmps8
    go_wp2_with fail
    go_ret
    exact ⟨rfl, Below.refl _ _⟩

/-! the row -/
set_option maxRecDepth 100000 in
theorem lifted (os : Os) (started : os.Started) (H : Type) (enc : TypeId × Value → H) :
    ReturnsInHanded {} Tryd.checked os 8 .any (fun w args => (Rows.fnExactFormatPositionSpec.pre enc Tryd.prog Tryd.f8 Rows.fnExactFormatPositionRow.domain false w args ∧ laidMetH Tryd.prog Rows.fnExactFormatPositionRow.laid w) ∧ sizedMet enc Tryd.prog Tryd.f8 (OpenSpec.ofChange Rows.fnExactFormatPositionSpec) false w args) (Rows.fnExactFormatPositionSpec.post enc Tryd.prog Tryd.f8 false true false false) := by
  refine returns_both (C := Tryd.checked) (X := (fun w _ => laidMetH Tryd.prog Rows.fnExactFormatPositionRow.laid w)) (fun _ _ _ hh h => h.of_heap hh) own started (by kernel_rfl) Tryd.func8
    (ChangeSpec.witness_at (enc := enc) (C := Tryd.checked) (os := os) (X := (fun w _ => laidMetH Tryd.prog Rows.fnExactFormatPositionRow.laid w)) false (laidWorld os) #[.slice none 0 0] 8 rfl (by kernel_rfl) (by kernel_rfl) (by kernel_rfl) (by kernel_rfl) (by kernel_rfl) (laidWorld_met os _)) ?_
  intro W base args ds gs before hval0 hW hL hSh
  have hF : Fact W := fact_of_laid hL hSh
  have hval : ∀ (j : Nat) t v, Tryd.f8.params[j]? = some t → args[j]? = some v → Value.okWide Tryd.prog W .any base t v := hval0
  have hW' := hW
  obtain ⟨p, q, hA0, hV, rfl, hfz, hnd⟩ := hW
  have hA : DataW.TrodAll enc Tryd.prog W 0 (fun _ => true) true Tryd.f8.params.toList args.toList ds p := hA0
  rw [Tryd.params8] at hA hval
  obtain ⟨v0, vs0, d0, ds0, p0, q0, hargs, rfl, rfl, h0, r0⟩ := trodAll_cons hA
  obtain ⟨rfl, rfl, rfl⟩ := trodAll_nil r0
  obtain rfl : args = #[v0] := by cases args; simp_all
  obtain ⟨rfl, rfl⟩ := trodVars_none hV
  have k0 := h0
  obtain ⟨p, hp⟩ := open_IntS (hval 0 35 v0 rfl rfl) h0
  clear hA0 hval0
  simp only [List.append_nil] at hW'
  have hlt0 : ∀ x ∈ p0, x.block < W.heap.size := fun x hx => hW'.lt x (by simp [hx])
  refine (walk hF v0 p hp).mono fun e W' ⟨he, hb⟩ => ?_
  subst he
  exact ⟨_, rfl, [d0], [], _, [], p0 ++ [], [], by simpa using hW', trodAll_cons_mk (shut_bool Tryd.underlying4 _) trodAll_mk0, (trodAll_cons_mk (Below.trod laidOut (by kernel_rfl) (of_decide_eq_true (by kernel_rfl)) k0 hb hlt0) trodAll_mk0), rfl, hb.frame _, fun h => by cases h⟩

theorem over : Rows.fnExactFormatPositionRow.holds Tryd.pinned (OpenSpec.ofChange Rows.fnExactFormatPositionSpec) :=
  OpenClaim.holds_of_wide 8 Tryd.f8 rfl rfl rfl rfl rfl rfl rfl ⟨rfl, rfl, rfl, rfl, rfl⟩ rfl rfl rfl rfl rfl (by kernel_rfl) Tryd.func8 (by kernel_rfl)
    (of_decide_eq_true (by kernel_rfl)) (by unfold Func.isWrapper; first | (rw [if_pos (by decide +kernel)]; kernel_rfl) | (rw [if_neg (by decide +kernel)]; exact ⟨rfl, rfl⟩))
    (fun os started H enc _ => lifted os started H enc)

theorem proved : Rows.FnExactFormatPositionCardSaid :=
  Claim7.holds_tied_plain_at .later [] [.data, .data, .data] true (true, "0644d1530b21c1081fa100fd9faba0edca2a1d33656676d954e2a7f42d9aab08") true
    over (fun _ h => by cases h) (by kernel_rfl) (fun _ h => by cases h) fnExactFormatPosition_row_tie rfl ⟨rfl, rfl⟩ (by kernel_rfl) rfl
    (fun f fn hf hfn => by
      obtain rfl : f = 8 := Option.some.inj ((show Tryd.prog.funcNamed "loop.example/g00892/laws.FnExactFormatPosition" = some 8 by kernel_rfl).symm.trans hf) |>.symm
      obtain rfl : fn = Tryd.f8 := (Option.some.inj (Tryd.func8.symm.trans hfn)).symm
      exact ⟨by kernel_rfl, fun j t ht => by
        rw [Tryd.params8] at ht
        rcases j with _ | j
        · obtain rfl : t = 35 := by simpa using ht.symm
          exact (show Tryd.prog.wantsStandIn 35 = false by kernel_rfl)
        · simp at ht⟩)
    (by kernel_rfl)
#print axioms proved
end Go.Proofs.YtgbfcaehijpgcaaDoor.fnExactFormatPosition
