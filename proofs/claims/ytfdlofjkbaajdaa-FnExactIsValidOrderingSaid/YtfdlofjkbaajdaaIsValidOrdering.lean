/- For every input the law FnExactIsValidOrdering returns true, and each argument reads behind the call as it read before it. No conditions. -/
import Derived.Test.YtfdlofjkbaajdaaRows
import Derived.Test.YtfdlofjkbaajdaaBrP
import Derived.Test.YtfdlofjkbaajdaaOv
import Derived.OpenShut
namespace Go.Proofs.Ytfdlofjkbaajdaa.fnExactIsValidOrdering
set_option maxRecDepth 100000
open Go.ChangeShapes Go.WideShapes Go.ChangeAt Go.RowKit

set_option maxHeartbeats 2000000 in
theorem walk (o0 o1 o2 : Value) (o : Og) {w : World} (ho : Og.at (fun _ => True) w o0 o1 o2 o) :
    Calls Try.prog 5 #[.agg #[o0, o1, o2]] w fun e w' => e = .returned (.bool true) ∧ Below w.heap.size w w' := by
  obtain ⟨⟨oa0, oc0, rfl⟩, ⟨oA0, oC0, rfl⟩, rfl⟩ := Og.at_form ho
  have hW : Below w.heap.size w (w.alloc (.cells #[.slice oa0 o.syms.length oc0, .slice oA0 o.ws.length oC0, .int .i64 o.var] 34)) := (Below.refl _ _).alloc (Nat.le_refl _) _
  have bo : Box (w.alloc (.cells #[.slice oa0 o.syms.length oc0, .slice oA0 o.ws.length oC0, .int .i64 o.var] 34)) (w.heap.size) [.slice oa0 o.syms.length oc0, .slice oA0 o.ws.length oC0, .int .i64 o.var] := by
    have := (Box.new w [.slice oa0 o.syms.length oc0, .slice oA0 o.ws.length oC0, .int .i64 o.var] 34)
    simpa only [World.size_alloc] using this
  replace ho := Og.at_keep (Keeps.all hW) ho
  go_enter Try.func5, Try.ntmps5
  have ebo0 := bo.c0
  have ebo1 := bo.c1
  have ebo2 := bo.c2
  have lbo := bo.lt
  go_wp2_with fail
  generalize (w.alloc (.cells #[.slice oa0 o.syms.length oc0, .slice oA0 o.ws.length oC0, .int .i64 o.var] 34)) = w0 at *
  refine (szOg_any o _ _ _ _ _ _ ho (by omega) (by omega)).mono ?_
  rintro e w1 ⟨rfl, hb⟩
  replace hW := hW.trans (hb.mono hW.size)
  replace bo := bo.keep hb
  replace ho := Og.at_keep (Keeps.all hb) ho
  clear ebo0 ebo1 ebo2 lbo hb
  by_cases hzo : (o.bulk : Int) ≤ 1048576
  rotate_left
  · rw [after_neg (by omega)]
    go_wp2_with fail
    go_ret
    exact ⟨rfl, hW⟩
  rw [after_pos hzo]
  have hbo : o.bulk ≤ 1048576 := by omega
  have ebo0 := bo.c0
  have ebo1 := bo.c1
  have ebo2 := bo.c2
  have lbo := bo.lt
  go_wp2_with fail
  refine (toOg_is ho hbo).mono ?_
  rintro e w2 ⟨_, rfl, hb, hI⟩
  replace hW := hW.trans (hb.mono hW.size)
  replace bo := bo.keep hb
  replace ho := Og.at_keep (Keeps.all hb) ho
  clear ebo0 ebo1 ebo2 lbo hb
  obtain ⟨oa1, oc1, oA1, oC1, rfl, ho1⟩ := IsO.form hI
  have ebo0 := bo.c0
  have ebo1 := bo.c1
  have ebo2 := bo.c2
  have lbo := bo.lt
  go_wp2_with fail
  refine (spec_IsValidOrdering ho1 hbo).mono ?_
  rintro e w3 ⟨_, rfl, hb, rfl⟩
  replace hW := hW.trans (hb.mono hW.size)
  replace bo := bo.keep hb
  replace ho := Og.at_keep (Keeps.all hb) ho
  replace ho1 := Og.at_keep (Keeps.all hb) ho1
  clear ebo0 ebo1 ebo2 lbo hb
  have ebo0 := bo.c0
  have ebo1 := bo.c1
  have ebo2 := bo.c2
  have lbo := bo.lt
  go_wp2_with fail
  refine (toOg_is ho hbo).mono ?_
  rintro e w4 ⟨_, rfl, hb, hI⟩
  replace hW := hW.trans (hb.mono hW.size)
  replace bo := bo.keep hb
  replace ho := Og.at_keep (Keeps.all hb) ho
  replace ho1 := Og.at_keep (Keeps.all hb) ho1
  clear ebo0 ebo1 ebo2 lbo hb
  obtain ⟨oa2, oc2, oA2, oC2, rfl, ho2⟩ := IsO.form hI
  have hb : Below w4.heap.size w4 (w4.alloc (.cells #[.slice oa2 o.syms.length oc2, .slice oA2 o.ws.length oC2, .int .i64 o.var] 37)) := (Below.refl _ _).alloc (Nat.le_refl _) _
  have Bo : Box (w4.alloc (.cells #[.slice oa2 o.syms.length oc2, .slice oA2 o.ws.length oC2, .int .i64 o.var] 37)) w4.heap.size [.slice oa2 o.syms.length oc2, .slice oA2 o.ws.length oC2, .int .i64 o.var] := Box.new _ _ _
  replace hW := hW.trans (hb.mono hW.size)
  replace bo := bo.keep hb
  replace ho := Og.at_keep (Keeps.all hb) ho
  replace ho1 := Og.at_keep (Keeps.all hb) ho1
  replace ho2 := Og.at_keep (Keeps.all hb) ho2
  clear hb
  have ebo0 := bo.c0
  have ebo1 := bo.c1
  have ebo2 := bo.c2
  have lbo := bo.lt
  have eBo0 := Bo.c0
  have eBo1 := Bo.c1
  have eBo2 := Bo.c2
  have lBo := Bo.lt
  go_wp2_with fail
  refine (impl_IsValidOrdering ho2 hbo).mono ?_
  rintro e w5 ⟨_, rfl, hb, rfl⟩
  replace hW := hW.trans (hb.mono hW.size)
  replace bo := bo.keep hb
  replace ho := Og.at_keep (Keeps.all hb) ho
  replace ho1 := Og.at_keep (Keeps.all hb) ho1
  replace ho2 := Og.at_keep (Keeps.all hb) ho2
  replace Bo := Bo.keep hb
  clear ebo0 ebo1 ebo2 lbo eBo0 eBo1 eBo2 lBo hb
  have ebo0 := bo.c0
  have ebo1 := bo.c1
  have ebo2 := bo.c2
  have lbo := bo.lt
  have eBo0 := Bo.c0
  have eBo1 := Bo.c1
  have eBo2 := Bo.c2
  have lBo := Bo.lt
  go_wp2_with fail
  refine wp_region_B [fun v _ => v = .agg #[.slice oa2 o.syms.length oc2, .slice oA2 o.ws.length oC2, .int .i64 o.var], fun v _ => v = .agg #[.slice oa0 o.syms.length oc0, .slice oA0 o.ws.length oC0, .int .i64 o.var], IsO o, fun v _ => v = .bool true, fun v _ => v = .bool false] _ (fun V => by simp [putAll, Act.put]; rfl) (by kernel_rfl) (by decide) (by simp) (by kernel_rfl) ?_ ?_ ?_
  · intro F hF
    simp only [List.mem_cons, List.not_mem_nil, or_false] at hF
    rcases hF with rfl | rfl | rfl | rfl | rfl
    · exact stable_eq
    · exact stable_eq
    · exact IsO.stable
    · exact stable_eq
    · exact stable_eq
  · refine ⟨?_, ?_, ?_, ?_, ?_, trivial⟩
    · intro V w1 hbR _
      obtain ⟨hc, hf⟩ := bcell hbR
      try simp only [World.size_alloc, World.size_setCell] at hc hf
      unfold Does
      go_simp
      exact ⟨Below.refl _ _, rfl⟩
    · intro V w1 hbR _
      obtain ⟨hc, hf⟩ := bcell hbR
      try simp only [World.size_alloc, World.size_setCell] at hc hf
      unfold Does
      go_simp
      exact ⟨Below.refl _ _, rfl⟩
    · intro V w1 hbR ⟨f1, _⟩
      replace f1 : V 1 = .agg #[.slice oa0 o.syms.length oc0, .slice oA0 o.ws.length oC0, .int .i64 o.var] := f1
      obtain ⟨hc, hf⟩ := bcell hbR
      try simp only [World.size_alloc, World.size_setCell] at hc hf
      unfold Does
      go_simp
      exact toOg_is (Og.at_keep (Keeps.all hbR) ho) hbo
    · intro V w1 hbR ⟨f0, f2, _, _⟩
      replace f0 : V 0 = .agg #[.slice oa2 o.syms.length oc2, .slice oA2 o.ws.length oC2, .int .i64 o.var] := f0
      replace f2 : (IsO o) (V 2) w1 := f2
      obtain ⟨_, _, _, _, E2, g2⟩ := IsO.form f2
      obtain ⟨hc, hf⟩ := bcell hbR
      try simp only [World.size_alloc, World.size_setCell] at hc hf
      unfold Does
      go_simp
      exact eqOg_refl (Og.at_keep (Keeps.all hbR) ho2) g2
    · intro V w1 hbR ⟨f3, _⟩
      replace f3 : V 3 = .bool true := f3
      unfold Does
      go_simp
      exact ⟨Below.refl _ _, rfl⟩
  intro V w6 hbR hfR
  obtain ⟨f0, f1, f2, f3, f4, _⟩ := hfR
  replace f0 : V 0 = .agg #[.slice oa2 o.syms.length oc2, .slice oA2 o.ws.length oC2, .int .i64 o.var] := f0
  replace f1 : V 1 = .agg #[.slice oa0 o.syms.length oc0, .slice oA0 o.ws.length oC0, .int .i64 o.var] := f1
  replace f2 : (IsO o) (V 2) w6 := f2
  replace f3 : V 3 = .bool true := f3
  replace f4 : V 4 = .bool false := f4
  simp only [f0, f1, f3, f4]
  clear f0 f1 f3 f4
  have hb := hbR
  replace hW := hW.trans (hb.mono hW.size)
  replace bo := bo.keep hb
  replace ho := Og.at_keep (Keeps.all hb) ho
  replace ho1 := Og.at_keep (Keeps.all hb) ho1
  replace ho2 := Og.at_keep (Keeps.all hb) ho2
  replace Bo := Bo.keep hb
  clear ebo0 ebo1 ebo2 lbo eBo0 eBo1 eBo2 lBo hb hbR f2
  have ebo0 := bo.c0
  have ebo1 := bo.c1
  have ebo2 := bo.c2
  have lbo := bo.lt
  have eBo0 := Bo.c0
  have eBo1 := Bo.c1
  have eBo2 := Bo.c2
  have lBo := Bo.lt
  go_wp2_with fail
  go_ret
  exact ⟨rfl, hW⟩

/-! the row -/
set_option maxRecDepth 100000 in
theorem lifted (os : Os) (started : os.Started) (H : Type) (enc : TypeId × Value → H) :
    ReturnsInHanded {} Try.checked os 5 .any (Rows.fnExactIsValidOrderingSpec.pre6 enc Try.prog Try.f5 Rows.fnExactIsValidOrderingRow.domain false) (Rows.fnExactIsValidOrderingSpec.post enc Try.prog Try.f5 false true false false) := by
  refine returnsInHanded_of_change (C := Try.checked) own started (by kernel_rfl) Try.func5
    (ChangeSpec.witness6 (enc := enc) (C := Try.checked) false ⟨#[], #[.agg #[.slice none 0 0, .slice none 0 0, .int .i64 0]], []⟩ 8 (by kernel_rfl) (by kernel_rfl) (by kernel_rfl) (by kernel_rfl)) ?_
  intro W base args ds gs before hval0 hW _ _
  have hval : ∀ (j : Nat) t v, Try.f5.params[j]? = some t → args[j]? = some v → Value.okWide Try.prog W .any base t v := hval0
  have hW' := hW
  obtain ⟨p, q, hA0, hV, rfl, hfz, hnd⟩ := hW
  have hA : DataW.TrodAll enc Try.prog W 0 (fun _ => true) true Try.f5.params.toList args.toList ds p := hA0
  rw [Try.params5] at hA hval
  obtain ⟨v0, vs0, d0, ds0, p0, q0, hargs, rfl, rfl, h0, r0⟩ := trodAll_cons hA
  obtain ⟨rfl, rfl, rfl⟩ := trodAll_nil r0
  obtain rfl : args = #[v0] := by cases args; simp_all
  obtain ⟨rfl, rfl⟩ := trodVars_none hV
  have k0 := h0
  obtain ⟨o0, o1, o2, o, rfl, ho⟩ := open_Ordering (hval 0 34 v0 rfl rfl) h0
  clear hA0 hval0
  simp only [List.append_nil] at hW'
  have hlt0 : ∀ x ∈ p0, x.block < W.heap.size := fun x hx => hW'.lt x (by simp [hx])
  refine (walk o0 o1 o2 o ho).mono fun e W' ⟨he, hb⟩ => ?_
  subst he
  exact ⟨_, rfl, [d0], [], _, [], p0 ++ [], [], by simpa using hW', trodAll_cons_mk (shut_bool Try.underlying4 _) trodAll_mk0, (trodAll_cons_mk (Below.trod laidOut (by kernel_rfl) (of_decide_eq_true (by kernel_rfl)) k0 hb hlt0) trodAll_mk0), rfl, hb.frame _, fun h => by cases h⟩

theorem over : Rows.fnExactIsValidOrderingRow.holds Try.pinned (OpenSpec.ofChange Rows.fnExactIsValidOrderingSpec) :=
  OpenClaim.holds_of_wide 5 Try.f5 rfl rfl rfl rfl rfl rfl rfl ⟨rfl, rfl, rfl, rfl, rfl⟩ rfl rfl rfl rfl rfl (by kernel_rfl) Try.func5 (by kernel_rfl)
    (of_decide_eq_true (by kernel_rfl)) (by unfold Func.isWrapper; first | (rw [if_pos (by decide +kernel)]; kernel_rfl) | (rw [if_neg (by decide +kernel)]; exact ⟨rfl, rfl⟩))
    (fun os started H enc _ => lifted os started H enc)

theorem proved : Rows.FnExactIsValidOrderingSaid :=
  over
#print axioms proved
end Go.Proofs.Ytfdlofjkbaajdaa.fnExactIsValidOrdering
