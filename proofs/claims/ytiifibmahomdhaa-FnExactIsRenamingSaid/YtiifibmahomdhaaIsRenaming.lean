/- For every input the law FnExactIsRenaming returns true, and each argument reads behind the call as it read before it. No conditions. -/
import Derived.Test.YtiifibmahomdhaaRows
import Derived.Test.YtiifibmahomdhaaBrT
import Derived.Test.YtiifibmahomdhaaSz
import Derived.Test.YtiifibmahomdhaaTo
import Derived.Test.YtiifibmahomdhaaEq
import Derived.Test.YtiifibmahomdhaaRn
import Derived.OpenShut
import Derived.ShutString
namespace Go.Proofs.Ytiifibmahomdhaa.fnExactIsRenaming
set_option maxRecDepth 100000
open Go.ChangeShapes Go.WideShapes Go.ChangeAt Go.RowKit

set_option maxHeartbeats 2000000 in
theorem walk (t0 : Value) (t : Sb) {w : World} (ht : Sb.at (fun _ => True) w t0 t) :
    Calls Try.prog 8 #[.agg #[t0]] w fun e w' => e = .returned (.bool true) ∧ Below w.heap.size w w' := by
  obtain ⟨ta0, tc0, rfl⟩ := Sb.at_form ht
  have hW : Below w.heap.size w (w.alloc (.cells #[.slice ta0 t.bs.length tc0] 45)) := (Below.refl _ _).alloc (Nat.le_refl _) _
  have bt : Box (w.alloc (.cells #[.slice ta0 t.bs.length tc0] 45)) (w.heap.size) [.slice ta0 t.bs.length tc0] := by
    have := (Box.new w [.slice ta0 t.bs.length tc0] 45)
    simpa only [World.size_alloc] using this
  replace ht := Sb.at_keep (Keeps.all hW) ht
  go_enter Try.func8, Try.ntmps8
  have ebt0 := bt.c0
  have lbt := bt.lt
  go_wp2_with fail
  generalize (w.alloc (.cells #[.slice ta0 t.bs.length tc0] 45)) = w0 at *
  refine (szSb_any t _ _ _ _ ht (by omega) (by omega)).mono ?_
  rintro e w1 ⟨rfl, hb⟩
  replace hW := hW.trans (hb.mono hW.size)
  replace bt := bt.keep hb
  replace ht := Sb.at_keep (Keeps.all hb) ht
  clear ebt0 lbt hb
  by_cases hzt : (t.bulk : Int) ≤ 1048576
  rotate_left
  · rw [after_neg (by omega)]
    go_wp2_with fail
    go_ret
    exact ⟨rfl, hW⟩
  rw [after_pos hzt]
  have hbt : t.bulk ≤ 1048576 := by omega
  have ebt0 := bt.c0
  have lbt := bt.lt
  go_wp2_with fail
  refine (toSb_is ht hbt).mono ?_
  rintro e w2 ⟨_, rfl, hb, hI⟩
  replace hW := hW.trans (hb.mono hW.size)
  replace bt := bt.keep hb
  replace ht := Sb.at_keep (Keeps.all hb) ht
  clear ebt0 lbt hb
  obtain ⟨ta1, tc1, rfl, ht1⟩ := IsS.form hI
  have ebt0 := bt.c0
  have lbt := bt.lt
  go_wp2_with fail
  refine (spec_IsRenaming ht1 hbt).mono ?_
  rintro e w3 ⟨_, rfl, hb, rfl⟩
  replace hW := hW.trans (hb.mono hW.size)
  replace bt := bt.keep hb
  replace ht := Sb.at_keep (Keeps.all hb) ht
  replace ht1 := Sb.at_keep (Keeps.all hb) ht1
  clear ebt0 lbt hb
  have ebt0 := bt.c0
  have lbt := bt.lt
  go_wp2_with fail
  refine (toSb_is ht hbt).mono ?_
  rintro e w4 ⟨_, rfl, hb, hI⟩
  replace hW := hW.trans (hb.mono hW.size)
  replace bt := bt.keep hb
  replace ht := Sb.at_keep (Keeps.all hb) ht
  replace ht1 := Sb.at_keep (Keeps.all hb) ht1
  clear ebt0 lbt hb
  obtain ⟨ta2, tc2, rfl, ht2⟩ := IsS.form hI
  have hb : Below w4.heap.size w4 (w4.alloc (.cells #[.slice ta2 t.bs.length tc2] 50)) := (Below.refl _ _).alloc (Nat.le_refl _) _
  have Bt : Box (w4.alloc (.cells #[.slice ta2 t.bs.length tc2] 50)) w4.heap.size [.slice ta2 t.bs.length tc2] := Box.new _ _ _
  replace hW := hW.trans (hb.mono hW.size)
  replace bt := bt.keep hb
  replace ht := Sb.at_keep (Keeps.all hb) ht
  replace ht1 := Sb.at_keep (Keeps.all hb) ht1
  replace ht2 := Sb.at_keep (Keeps.all hb) ht2
  clear hb
  have ebt0 := bt.c0
  have lbt := bt.lt
  have eBt0 := Bt.c0
  have lBt := Bt.lt
  go_wp2_with fail
  refine (impl_IsRenaming ht2 hbt).mono ?_
  rintro e w5 ⟨_, rfl, hb, rfl⟩
  replace hW := hW.trans (hb.mono hW.size)
  replace bt := bt.keep hb
  replace ht := Sb.at_keep (Keeps.all hb) ht
  replace ht1 := Sb.at_keep (Keeps.all hb) ht1
  replace ht2 := Sb.at_keep (Keeps.all hb) ht2
  replace Bt := Bt.keep hb
  clear ebt0 lbt eBt0 lBt hb
  have ebt0 := bt.c0
  have lbt := bt.lt
  have eBt0 := Bt.c0
  have lBt := Bt.lt
  go_wp2_with fail
  refine wp_region_B [fun v _ => v = .agg #[.slice ta2 t.bs.length tc2], fun v _ => v = .agg #[.slice ta0 t.bs.length tc0], IsS t, fun v _ => v = .bool true, fun v _ => v = .bool false] _ (fun V => by simp [putAll, Act.put]; rfl) (by kernel_rfl) (by decide) (by simp) (by kernel_rfl) ?_ ?_ ?_
  · intro F hF
    simp only [List.mem_cons, List.not_mem_nil, or_false] at hF
    rcases hF with rfl | rfl | rfl | rfl | rfl
    · exact stable_eq
    · exact stable_eq
    · exact IsS.stable
    · exact stable_eq
    · exact stable_eq
  · refine ⟨?_, ?_, ?_, ?_, ?_, trivial⟩
    · intro V w1 hbR _
      obtain ⟨hc, hf⟩ := bcell hbR
      try simp only [World.size_alloc, World.size_setCell] at hc hf
      unfold Does
      go_simp
      exact ⟨Below.refl _ _, rfl⟩
    · intro V w1 hbR _
      obtain ⟨hc, hf⟩ := bcell hbR
      try simp only [World.size_alloc, World.size_setCell] at hc hf
      unfold Does
      go_simp
      exact ⟨Below.refl _ _, rfl⟩
    · intro V w1 hbR ⟨f1, _⟩
      replace f1 : V 1 = .agg #[.slice ta0 t.bs.length tc0] := f1
      obtain ⟨hc, hf⟩ := bcell hbR
      try simp only [World.size_alloc, World.size_setCell] at hc hf
      unfold Does
      go_simp
      exact toSb_is (Sb.at_keep (Keeps.all hbR) ht) hbt
    · intro V w1 hbR ⟨f0, f2, _, _⟩
      replace f0 : V 0 = .agg #[.slice ta2 t.bs.length tc2] := f0
      replace f2 : (IsS t) (V 2) w1 := f2
      obtain ⟨_, _, E2, g2⟩ := IsS.form f2
      obtain ⟨hc, hf⟩ := bcell hbR
      try simp only [World.size_alloc, World.size_setCell] at hc hf
      unfold Does
      go_simp
      exact eqSb_refl (Sb.at_keep (Keeps.all hbR) ht2) g2
    · intro V w1 hbR ⟨f3, _⟩
      replace f3 : V 3 = .bool true := f3
      unfold Does
      go_simp
      exact ⟨Below.refl _ _, rfl⟩
  intro V w6 hbR hfR
  obtain ⟨f0, f1, f2, f3, f4, _⟩ := hfR
  replace f0 : V 0 = .agg #[.slice ta2 t.bs.length tc2] := f0
  replace f1 : V 1 = .agg #[.slice ta0 t.bs.length tc0] := f1
  replace f2 : (IsS t) (V 2) w6 := f2
  replace f3 : V 3 = .bool true := f3
  replace f4 : V 4 = .bool false := f4
  simp only [f0, f1, f3, f4]
  clear f0 f1 f3 f4
  have hb := hbR
  replace hW := hW.trans (hb.mono hW.size)
  replace bt := bt.keep hb
  replace ht := Sb.at_keep (Keeps.all hb) ht
  replace ht1 := Sb.at_keep (Keeps.all hb) ht1
  replace ht2 := Sb.at_keep (Keeps.all hb) ht2
  replace Bt := Bt.keep hb
  clear ebt0 lbt eBt0 lBt hb hbR f2
  have ebt0 := bt.c0
  have lbt := bt.lt
  have eBt0 := Bt.c0
  have lBt := Bt.lt
  go_wp2_with fail
  go_ret
  exact ⟨rfl, hW⟩

/-! the row -/
set_option maxRecDepth 100000 in
theorem lifted (os : Os) (started : os.Started) (H : Type) (enc : TypeId × Value → H) :
    ReturnsInHanded {} Try.checked os 8 .any (Rows.fnExactIsRenamingSpec.pre6 enc Try.prog Try.f8 Rows.fnExactIsRenamingRow.domain false) (Rows.fnExactIsRenamingSpec.post enc Try.prog Try.f8 false true false false) := by
  refine returnsInHanded_of_change (C := Try.checked) own started (by kernel_rfl) Try.func8
    (ChangeSpec.witness6 (enc := enc) (C := Try.checked) false ⟨#[], #[.agg #[.slice none 0 0]], []⟩ 8 (by kernel_rfl) (by kernel_rfl) (by kernel_rfl) (by kernel_rfl)) ?_
  intro W base args ds gs before hval0 hW _ _
  have hval : ∀ (j : Nat) t v, Try.f8.params[j]? = some t → args[j]? = some v → Value.okWide Try.prog W .any base t v := hval0
  have hW' := hW
  obtain ⟨p, q, hA0, hV, rfl, hfz, hnd⟩ := hW
  have hA : DataW.TrodAll enc Try.prog W 0 (fun _ => true) true Try.f8.params.toList args.toList ds p := hA0
  rw [Try.params8] at hA hval
  obtain ⟨v0, vs0, d0, ds0, p0, q0, hargs, rfl, rfl, h0, r0⟩ := trodAll_cons hA
  obtain ⟨rfl, rfl, rfl⟩ := trodAll_nil r0
  obtain rfl : args = #[v0] := by cases args; simp_all
  obtain ⟨rfl, rfl⟩ := trodVars_none hV
  have k0 := h0
  obtain ⟨t0, t, rfl, ht⟩ := open_Subst (hval 0 45 v0 rfl rfl) h0
  clear hA0 hval0
  simp only [List.append_nil] at hW'
  have hlt0 : ∀ x ∈ p0, x.block < W.heap.size := fun x hx => hW'.lt x (by simp [hx])
  refine (walk t0 t ht).mono fun e W' ⟨he, hb⟩ => ?_
  subst he
  exact ⟨_, rfl, [d0], [], _, [], p0 ++ [], [], by simpa using hW', trodAll_cons_mk (shut_bool Try.underlying4 _) trodAll_mk0, (trodAll_cons_mk (Below.trod laidOut (by kernel_rfl) (of_decide_eq_true (by kernel_rfl)) k0 hb hlt0) trodAll_mk0), rfl, hb.frame _, fun h => by cases h⟩

theorem over : Rows.fnExactIsRenamingRow.holds Try.pinned (OpenSpec.ofChange Rows.fnExactIsRenamingSpec) :=
  OpenClaim.holds_of_wide 8 Try.f8 rfl rfl rfl rfl rfl rfl rfl ⟨rfl, rfl, rfl, rfl, rfl⟩ rfl rfl rfl rfl rfl (by kernel_rfl) Try.func8 (by kernel_rfl)
    (of_decide_eq_true (by kernel_rfl)) (by unfold Func.isWrapper; first | (rw [if_pos (by decide +kernel)]; kernel_rfl) | (rw [if_neg (by decide +kernel)]; exact ⟨rfl, rfl⟩))
    (fun os started H enc _ => lifted os started H enc)

theorem proved : Rows.FnExactIsRenamingSaid :=
  over
#print axioms proved
end Go.Proofs.Ytiifibmahomdhaa.fnExactIsRenaming
