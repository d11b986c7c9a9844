/- For every input the law FnExactParsePosition returns true, and its argument reads behind the call as it read before it: the tied card. Conditions: the package-level variables that the row lists start as the program's text lays them. -/
import Derived.Test.YtgbfcaehijpgcaaDoorRows
import Derived.Test.YtgbfcaehijpgcaaDoorCards
import Derived.Test.YtgbfcaehijpgcaaDoorTie
import Derived.Test.YtgbfcaehijpgcaaDoorPp
import Derived.Test.YtgbfcaehijpgcaaDoorIl
import Derived.Test.YtgbfcaehijpgcaaDoorSs
import Derived.OpenShut
namespace Go.Proofs.YtgbfcaehijpgcaaDoor.fnExactParsePosition
set_option maxRecDepth 100000
open Go Go.ChangeShapes Go.WideShapes Go.ChangeAt Go.RowKit
open Go.ChangeMaps (open_string shut_string)

def Fact (w : World) : Prop := TabF w ∧ ErrF w ∧ MaxF w
theorem fact_of_laid {W : World} (h : laidMetH Tryd.prog Rows.fnExactParsePositionRow.laid W) (hS : W.ShapedOpen Tryd.prog) : Fact W := ⟨tab_of (laidMetH_iff.1 h).1 rfl, err_of (laidMetH_iff.1 h).1 rfl rfl, max_of hS⟩
theorem laidWorld_met (os : Os) (args : Array Value) : laidMetH Tryd.prog Rows.fnExactParsePositionRow.laid ((laidWorld os).forCall (fun _ _ => 0) ⟨#[], args, []⟩).memory :=
  laidMetH_of_parts (laidMet_of_run' 8 (by kernel_rfl) (by kernel_rfl)) (by kernel_rfl)
set_option maxHeartbeats 4000000 in
theorem walk {w : World} (hF : Fact w) (s : ByteArray) (_hs : s.size ≤ maxLen) :
    Calls Tryd.prog 9 #[.string s] w fun e w' => e = .returned (.bool true) ∧ Below w.heap.size w w' := by
  obtain ⟨r, Hr⟩ : ∃ r, Hid (ppR s = r) := ⟨_, hid rfl⟩
  obtain ⟨ok, Hok⟩ : ∃ ok : Bool, Hid (ppOk s = ok) := ⟨_, hid rfl⟩
  have hW : Below w.heap.size w w := Below.refl _ _
  have z0 : Hid (w.heap.size + 0 ≤ w.heap.size) := by simp [Hid]
  go_enter Tryd.func9, Tryd.ntmps9
  by_cases hbs : s.size ≤ 1048576
  rotate_left
  · go_wp2_with fail
    go_ret
    exact ⟨rfl, hW⟩
  go_wp2_with fail
  have hbr : r.length ≤ 1048576 := by
    rw [← Hr.out]
    exact (ppR_length s)
  have hcr : 1 + r.length ≤ 1099511627776 := by
    have := (Nat.le_refl r.length)
    omega
  obtain ⟨rm, Hrm⟩ : ∃ n : Nat, Hid (1 + r.length = n) := ⟨_, hid rfl⟩
  have hrm : ¬ ((rm : Nat) : Int) < 0 := by omega
  have hq := spec_ParsePosition (w := w) hbs
  rw [Hr.out, Hok.out] at hq
  refine hq.mono ?_
  clear hq
  rintro e w1 ⟨_, rfl, hr, hb⟩
  have z1 : Hid (w.heap.size ≤ w1.heap.size) := hb.size
  replace hW := hW.trans (hb.mono hW.size)
  clear hb
  obtain ⟨ra0, rc0, rfl, -, -⟩ := slOf_form hr
  go_wp2_with fail
  replace hr := D.rd_lt _ _ hr
  have hq := impl_ParsePosition (w := w1) hbs (TabF.keep hF.1 hW) (ErrF.keep hF.2.1 hW) (MaxF.keep hF.2.2 hW)
  rw [Hr.out, Hok.out] at hq
  refine hq.mono ?_
  clear hq
  rintro e w2 ⟨_, Fr1, rfl, or1, lr1, hb⟩
  have z2 : Hid (w1.heap.size ≤ w2.heap.size) := hb.size
  replace hW := hW.trans (hb.mono hW.size)
  replace hr := D.rd_keep (Keeps.all hb) _ _ hr
  clear hb
  obtain ⟨ra1, rc1, rfl, -, -⟩ := slOf_form (D.own_rd _ _ _ or1)
  have ur1 := D.own_lt _ _ _ or1
  go_wp2_with fail
  refine (eqIntS_refl (D.rd_all (D.own_rd _ _ _ or1)) (D.rd_all hr)).mono ?_
  rintro e w3 ⟨_, rfl, hb, rfl⟩
  have z3 : Hid (w2.heap.size ≤ w3.heap.size) := hb.size
  replace hW := hW.trans (hb.mono hW.size)
  replace hr := D.rd_keep (Keeps.all hb) _ _ hr
  replace or1 := D.own_keep _ _ _ (Keeps.all hb) or1
  clear hb
  go_wp2_with fail
  have hq := markIntS_any r 1 hcr or1
  rw [Hrm.out] at hq
  rw [show ((1 : Nat) : Int) = 1 from rfl] at hq
  refine hq.mono ?_
  clear hq
  rintro e w4 ⟨rfl, hm, oM⟩
  clear or1
  have z4 : Hid (w3.heap.size ≤ w4.heap.size) := hm.size
  replace hW := hW.trans (hm.2 _ hW.size (fun y hy => by have q1 := lr1 y hy; have := z0.out; have := z1.out; have := z2.out; have := z3.out; have := z4.out; omega))
  replace hr := D.rd_keep (hm.lt (fun y q => by have q1 := lr1 y q; have := z0.out; have := z1.out; have := z2.out; have := z3.out; have := z4.out; omega)) _ _ hr
  clear hm
  have oM0 := oM
  clear oM
  go_wp2_with fail
  have hq := heldIntS_any (mixI r 1 r.length) 1 (by rw [mixI_length]; exact hcr) (D.own_rd _ _ _ oM0) (fun i hi => mixI_get r 1 _ i hi (by rw [mixI_length] at hi; exact hi))
  rw [mixI_length] at hq
  rw [Hrm.out] at hq
  rw [show ((1 : Nat) : Int) = 1 from rfl] at hq
  refine hq.mono ?_
  clear hq
  rintro e w5 ⟨_, rfl, hb, rfl⟩
  have z5 : Hid (w4.heap.size ≤ w5.heap.size) := hb.size
  replace hW := hW.trans (hb.mono hW.size)
  replace hr := D.rd_keep (Keeps.all hb) _ _ hr
  replace oM0 := D.own_keep _ _ _ (Keeps.all hb) oM0
  clear hb
  go_wp2_with fail
  have hq := impl_ParsePosition (w := w5) hbs (TabF.keep hF.1 hW) (ErrF.keep hF.2.1 hW) (MaxF.keep hF.2.2 hW)
  rw [Hr.out, Hok.out] at hq
  refine hq.mono ?_
  clear hq
  rintro e w6 ⟨_, Fr2, rfl, or2, lr2, hb⟩
  have z6 : Hid (w5.heap.size ≤ w6.heap.size) := hb.size
  replace hW := hW.trans (hb.mono hW.size)
  replace hr := D.rd_keep (Keeps.all hb) _ _ hr
  replace oM0 := D.own_keep _ _ _ (Keeps.all hb) oM0
  clear hb
  obtain ⟨ra2, rc2, rfl, -, -⟩ := slOf_form (D.own_rd _ _ _ or2)
  have ur2 := D.own_lt _ _ _ or2
  go_wp2_with fail
  refine (eqIntS_refl (D.rd_all (D.own_rd _ _ _ or2)) (D.rd_all hr)).mono ?_
  rintro e w7 ⟨_, rfl, hb, rfl⟩
  have z7 : Hid (w6.heap.size ≤ w7.heap.size) := hb.size
  replace hW := hW.trans (hb.mono hW.size)
  replace hr := D.rd_keep (Keeps.all hb) _ _ hr
  replace oM0 := D.own_keep _ _ _ (Keeps.all hb) oM0
  replace or2 := D.own_keep _ _ _ (Keeps.all hb) or2
  clear hb
  go_wp2_with fail
  have hq := heldIntS_any (mixI r 1 r.length) 1 (by rw [mixI_length]; exact hcr) (D.own_rd _ _ _ oM0) (fun i hi => mixI_get r 1 _ i hi (by rw [mixI_length] at hi; exact hi))
  rw [mixI_length] at hq
  rw [Hrm.out] at hq
  rw [show ((1 : Nat) : Int) = 1 from rfl] at hq
  refine hq.mono ?_
  clear hq
  rintro e w8 ⟨_, rfl, hb, rfl⟩
  have z8 : Hid (w7.heap.size ≤ w8.heap.size) := hb.size
  replace hW := hW.trans (hb.mono hW.size)
  replace hr := D.rd_keep (Keeps.all hb) _ _ hr
  replace oM0 := D.own_keep _ _ _ (Keeps.all hb) oM0
  replace or2 := D.own_keep _ _ _ (Keeps.all hb) or2
  clear hb
  go_wp2_with fail
  go_ret
  exact ⟨rfl, hW⟩

/-! the row -/
set_option maxRecDepth 100000 in
theorem lifted (os : Os) (started : os.Started) (H : Type) (enc : TypeId × Value → H) :
    ReturnsInHanded {} Tryd.checked os 9 .any (fun w args => (Rows.fnExactParsePositionSpec.pre enc Tryd.prog Tryd.f9 Rows.fnExactParsePositionRow.domain false w args ∧ laidMetH Tryd.prog Rows.fnExactParsePositionRow.laid w) ∧ sizedMet enc Tryd.prog Tryd.f9 (OpenSpec.ofChange Rows.fnExactParsePositionSpec) false w args) (Rows.fnExactParsePositionSpec.post enc Tryd.prog Tryd.f9 false true false false) := by
  refine returns_both (C := Tryd.checked) (X := (fun w _ => laidMetH Tryd.prog Rows.fnExactParsePositionRow.laid w)) (fun _ _ _ hh h => h.of_heap hh) own started (by kernel_rfl) Tryd.func9
    (ChangeSpec.witness_at (enc := enc) (C := Tryd.checked) (os := os) (X := (fun w _ => laidMetH Tryd.prog Rows.fnExactParsePositionRow.laid w)) false (laidWorld os) #[.string ByteArray.empty] 8 rfl (by kernel_rfl) (by kernel_rfl) (by kernel_rfl) (by kernel_rfl) (by kernel_rfl) (laidWorld_met os _)) ?_
  intro W base args ds gs before hval0 hW hL hSh
  have hF : Fact W := fact_of_laid hL hSh
  have hval : ∀ (j : Nat) t v, Tryd.f9.params[j]? = some t → args[j]? = some v → Value.okWide Tryd.prog W .any base t v := hval0
  have hW' := hW
  obtain ⟨p, q, hA0, hV, rfl, hfz, hnd⟩ := hW
  have hA : DataW.TrodAll enc Tryd.prog W 0 (fun _ => true) true Tryd.f9.params.toList args.toList ds p := hA0
  rw [Tryd.params9] at hA hval
  obtain ⟨v0, vs0, d0, ds0, p0, q0, hargs, rfl, rfl, h0, r0⟩ := trodAll_cons hA
  obtain ⟨rfl, rfl, rfl⟩ := trodAll_nil r0
  obtain rfl : args = #[v0] := by cases args; simp_all
  obtain ⟨rfl, rfl⟩ := trodVars_none hV
  have k0 := h0
  obtain ⟨s, rfl, -, -, hs⟩ := open_string Tryd.underlying9 (hval 0 9 v0 rfl rfl) h0
  clear hA0 hval0
  simp only [List.append_nil] at hW'
  have hlt0 : ∀ x ∈ p0, x.block < W.heap.size := fun x hx => hW'.lt x (by simp [hx])
  refine (walk hF s hs).mono fun e W' ⟨he, hb⟩ => ?_
  subst he
  exact ⟨_, rfl, [d0], [], _, [], p0 ++ [], [], by simpa using hW', trodAll_cons_mk (shut_bool Tryd.underlying4 _) trodAll_mk0, (trodAll_cons_mk (Below.trod laidOut (by kernel_rfl) (of_decide_eq_true (by kernel_rfl)) k0 hb hlt0) trodAll_mk0), rfl, hb.frame _, fun h => by cases h⟩

theorem over : Rows.fnExactParsePositionRow.holds Tryd.pinned (OpenSpec.ofChange Rows.fnExactParsePositionSpec) :=
  OpenClaim.holds_of_wide 9 Tryd.f9 rfl rfl rfl rfl rfl rfl rfl ⟨rfl, rfl, rfl, rfl, rfl⟩ rfl rfl rfl rfl rfl (by kernel_rfl) Tryd.func9 (by kernel_rfl)
    (of_decide_eq_true (by kernel_rfl)) (by unfold Func.isWrapper; first | (rw [if_pos (by decide +kernel)]; kernel_rfl) | (rw [if_neg (by decide +kernel)]; exact ⟨rfl, rfl⟩))
    (fun os started H enc _ => lifted os started H enc)

theorem proved : Rows.FnExactParsePositionCardSaid :=
  Claim7.holds_tied_plain_at .later [] [.data, .data, .data, .data, .sentinel, .sentinel, .pinned] true (true, "0644d1530b21c1081fa100fd9faba0edca2a1d33656676d954e2a7f42d9aab08") true
    over (fun _ h => by cases h) (by kernel_rfl) (fun _ h => by cases h) fnExactParsePosition_row_tie rfl ⟨rfl, rfl⟩ (by kernel_rfl) rfl
    (fun f fn hf hfn => by
      obtain rfl : f = 9 := Option.some.inj ((show Tryd.prog.funcNamed "loop.example/g00892/laws.FnExactParsePosition" = some 9 by kernel_rfl).symm.trans hf) |>.symm
      obtain rfl : fn = Tryd.f9 := (Option.some.inj (Tryd.func9.symm.trans hfn)).symm
      exact ⟨by kernel_rfl, fun j t ht => by
        rw [Tryd.params9] at ht
        rcases j with _ | j
        · obtain rfl : t = 9 := by simpa using ht.symm
          exact (show Tryd.prog.wantsStandIn 9 = false by kernel_rfl)
        · simp at ht⟩)
    (by kernel_rfl)
#print axioms proved
end Go.Proofs.YtgbfcaehijpgcaaDoor.fnExactParsePosition
