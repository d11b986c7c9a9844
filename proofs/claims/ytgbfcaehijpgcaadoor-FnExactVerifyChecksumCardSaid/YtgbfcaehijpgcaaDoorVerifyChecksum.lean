/- For every input the law FnExactVerifyChecksum returns true, and its argument reads behind the call as it read before it: the tied card. Conditions: the package-level variables that the row lists start as the program's text lays them. -/
import Derived.Test.YtgbfcaehijpgcaaDoorRows
import Derived.Test.YtgbfcaehijpgcaaDoorCards
import Derived.Test.YtgbfcaehijpgcaaDoorTie
import Derived.Test.YtgbfcaehijpgcaaDoorVc
import Derived.OpenShut
namespace Go.Proofs.YtgbfcaehijpgcaaDoor.fnExactVerifyChecksum
set_option maxRecDepth 100000
open Go Go.ChangeShapes Go.WideShapes Go.ChangeAt Go.RowKit
open Go.ChangeMaps (open_string shut_string)

def Fact (w : World) : Prop := TabF w ∧ MaxF w
theorem fact_of_laid {W : World} (h : laidMetH Tryd.prog Rows.fnExactVerifyChecksumRow.laid W) (hS : W.ShapedOpen Tryd.prog) : Fact W := ⟨tab_of (laidMetH_iff.1 h).1 rfl, max_of hS⟩
theorem laidWorld_met (os : Os) (args : Array Value) : laidMetH Tryd.prog Rows.fnExactVerifyChecksumRow.laid ((laidWorld os).forCall (fun _ _ => 0) ⟨#[], args, []⟩).memory :=
  laidMetH_of_parts (laidMet_of_run' 8 (by kernel_rfl) (by kernel_rfl)) (by kernel_rfl)
set_option maxHeartbeats 1000000 in
theorem walk {w : World} (hF : Fact w) (s : ByteArray) {P : Prop} (_ : P) : Calls Tryd.prog 6 #[.string s] w fun e w' => e = .returned (.bool true) ∧ Below w.heap.size w w' := by
  obtain ⟨r, Hr⟩ : ∃ r, Hid (verR s = r) := ⟨_, hid rfl⟩
  obtain ⟨ok, Hok⟩ : ∃ ok, Hid (verOk s = ok) := ⟨_, hid rfl⟩
  by_cases hs : s.size ≤ 1048576
  · go_enter Tryd.func6, Tryd.ntmps6
    go_wp2_with fail
    refine (spec_VerifyChecksum s hs _).mono ?_
    rintro e w1 ⟨_, rfl, hb, rfl⟩
    rw [Hr.out, Hok.out]
    have hF1 := TabF.keep hF.1 hb
    have hF2 := MaxF.keep hF.2 hb
    go_wp2_with fail
    have hq := impl_VerifyChecksum s hs hF1 hF2
    rw [Hr.out, Hok.out] at hq
    refine hq.mono ?_
    rintro e w2 ⟨_, rfl, hb2, rfl⟩
    go_wp2_with fail
    go_ret
    exact ⟨rfl, hb.trans (hb2.mono hb.size)⟩
  · go_enter Tryd.func6, Tryd.ntmps6
    go_wp2_with fail
    go_ret
    exact ⟨rfl, Below.refl _ _⟩

/-! the row -/
set_option maxRecDepth 100000 in
theorem lifted (os : Os) (started : os.Started) (H : Type) (enc : TypeId × Value → H) :
    ReturnsInHanded {} Tryd.checked os 6 .any (fun w args => (Rows.fnExactVerifyChecksumSpec.pre enc Tryd.prog Tryd.f6 Rows.fnExactVerifyChecksumRow.domain false w args ∧ laidMetH Tryd.prog Rows.fnExactVerifyChecksumRow.laid w) ∧ sizedMet enc Tryd.prog Tryd.f6 (OpenSpec.ofChange Rows.fnExactVerifyChecksumSpec) false w args) (Rows.fnExactVerifyChecksumSpec.post enc Tryd.prog Tryd.f6 false true false false) := by
  refine returns_both (C := Tryd.checked) (X := (fun w _ => laidMetH Tryd.prog Rows.fnExactVerifyChecksumRow.laid w)) (fun _ _ _ hh h => h.of_heap hh) own started (by kernel_rfl) Tryd.func6
    (ChangeSpec.witness_at (enc := enc) (C := Tryd.checked) (os := os) (X := (fun w _ => laidMetH Tryd.prog Rows.fnExactVerifyChecksumRow.laid w)) false (laidWorld os) #[.string ByteArray.empty] 8 rfl (by kernel_rfl) (by kernel_rfl) (by kernel_rfl) (by kernel_rfl) (by kernel_rfl) (laidWorld_met os _)) ?_
  intro W base args ds gs before hval0 hW hL hSh
  have hF : Fact W := fact_of_laid hL hSh
  have hval : ∀ (j : Nat) t v, Tryd.f6.params[j]? = some t → args[j]? = some v → Value.okWide Tryd.prog W .any base t v := hval0
  have hW' := hW
  obtain ⟨p, q, hA0, hV, rfl, hfz, hnd⟩ := hW
  have hA : DataW.TrodAll enc Tryd.prog W 0 (fun _ => true) true Tryd.f6.params.toList args.toList ds p := hA0
  rw [Tryd.params6] at hA hval
  obtain ⟨v0, vs0, d0, ds0, p0, q0, hargs, rfl, rfl, h0, r0⟩ := trodAll_cons hA
  obtain ⟨rfl, rfl, rfl⟩ := trodAll_nil r0
  obtain rfl : args = #[v0] := by cases args; simp_all
  obtain ⟨rfl, rfl⟩ := trodVars_none hV
  have k0 := h0
  obtain ⟨s, rfl, -, -, hs⟩ := open_string Tryd.underlying9 (hval 0 9 v0 rfl rfl) h0
  clear hA0 hval0
  simp only [List.append_nil] at hW'
  have hlt0 : ∀ x ∈ p0, x.block < W.heap.size := fun x hx => hW'.lt x (by simp [hx])
  refine (walk hF s hs).mono fun e W' ⟨he, hb⟩ => ?_
  subst he
  exact ⟨_, rfl, [d0], [], _, [], p0 ++ [], [], by simpa using hW', trodAll_cons_mk (shut_bool Tryd.underlying4 _) trodAll_mk0, (trodAll_cons_mk (Below.trod laidOut (by kernel_rfl) (of_decide_eq_true (by kernel_rfl)) k0 hb hlt0) trodAll_mk0), rfl, hb.frame _, fun h => by cases h⟩

theorem over : Rows.fnExactVerifyChecksumRow.holds Tryd.pinned (OpenSpec.ofChange Rows.fnExactVerifyChecksumSpec) :=
  OpenClaim.holds_of_wide 6 Tryd.f6 rfl rfl rfl rfl rfl rfl rfl ⟨rfl, rfl, rfl, rfl, rfl⟩ rfl rfl rfl rfl rfl (by kernel_rfl) Tryd.func6 (by kernel_rfl)
    (of_decide_eq_true (by kernel_rfl)) (by unfold Func.isWrapper; first | (rw [if_pos (by decide +kernel)]; kernel_rfl) | (rw [if_neg (by decide +kernel)]; exact ⟨rfl, rfl⟩))
    (fun os started H enc _ => lifted os started H enc)

theorem proved : Rows.FnExactVerifyChecksumCardSaid :=
  Claim7.holds_tied_plain_at .later [] [.data, .data, .data] true (true, "0644d1530b21c1081fa100fd9faba0edca2a1d33656676d954e2a7f42d9aab08") true
    over (fun _ h => by cases h) (by kernel_rfl) (fun _ h => by cases h) fnExactVerifyChecksum_row_tie rfl ⟨rfl, rfl⟩ (by kernel_rfl) rfl
    (fun f fn hf hfn => by
      obtain rfl : f = 6 := Option.some.inj ((show Tryd.prog.funcNamed "loop.example/g00892/laws.FnExactVerifyChecksum" = some 6 by kernel_rfl).symm.trans hf) |>.symm
      obtain rfl : fn = Tryd.f6 := (Option.some.inj (Tryd.func6.symm.trans hfn)).symm
      exact ⟨by kernel_rfl, fun j t ht => by
        rw [Tryd.params6] at ht
        rcases j with _ | j
        · obtain rfl : t = 9 := by simpa using ht.symm
          exact (show Tryd.prog.wantsStandIn 9 = false by kernel_rfl)
        · simp at ht⟩)
    (by kernel_rfl)
#print axioms proved
end Go.Proofs.YtgbfcaehijpgcaaDoor.fnExactVerifyChecksum
