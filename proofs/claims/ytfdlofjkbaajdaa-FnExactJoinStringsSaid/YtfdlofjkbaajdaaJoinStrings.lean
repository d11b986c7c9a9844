/- For every input the law FnExactJoinStrings returns true, and each argument reads behind the call as it read before it. No conditions. -/
import Derived.Test.YtfdlofjkbaajdaaRows
import Derived.Test.YtfdlofjkbaajdaaBrP
import Derived.Test.YtfdlofjkbaajdaaJs
import Derived.OpenShut
import Derived.ShutString
namespace Go.Proofs.Ytfdlofjkbaajdaa.fnExactJoinStrings
set_option maxRecDepth 100000
open Go.ChangeShapes Go.WideShapes Go.ChangeAt Go.RowKit
open Go.ChangeMaps (open_string shut_string)

set_option maxHeartbeats 2000000 in
theorem walk (lv : Value) (l : List ByteArray) {w : World} (hl : D.rd (fun _ => True) w lv (slOf strE l)) (s : ByteArray) (_hs : s.size ≤ maxLen) :
    Calls Try.prog 4 #[lv, .string s] w fun e w' => e = .returned (.bool true) ∧ Below w.heap.size w w' := by
  obtain ⟨la0, lc0, rfl, -, -⟩ := slOf_form hl
  have hW : Below w.heap.size w w := Below.refl _ _
  replace hl := D.rd_keep (Keeps.all hW) _ _ hl
  go_enter Try.func4, Try.ntmps4
  by_cases hss : s.size ≤ 1048576
  rotate_left
  · go_wp2_with fail
    go_ret
    exact ⟨rfl, hW⟩
  go_wp2_with fail
  refine (szStrS_any l hl (by omega) (by omega)).mono ?_
  rintro e w1 ⟨rfl, hb⟩
  replace hW := hW.trans (hb.mono hW.size)
  replace hl := D.rd_keep (Keeps.all hb) _ _ hl
  clear hb
  by_cases hzl : ((strBulk l) : Int) ≤ 1048576
  rotate_left
  · rw [after_neg (by omega)]
    go_wp2_with fail
    go_ret
    exact ⟨rfl, hW⟩
  rw [after_pos hzl]
  have hbl : (strBulk l) ≤ 1048576 := by omega
  go_wp2_with fail
  refine (toStrS_is hl hbl).mono ?_
  rintro e w2 ⟨_, rfl, hb, hI⟩
  replace hW := hW.trans (hb.mono hW.size)
  replace hl := D.rd_keep (Keeps.all hb) _ _ hl
  clear hb
  obtain ⟨la1, lc1, rfl, hl1⟩ := IsSS.form hI
  go_wp2_with fail
  refine (spec_JoinStrings hl1 hbl hss).mono ?_
  rintro e w3 ⟨_, rfl, hb, rfl⟩
  replace hW := hW.trans (hb.mono hW.size)
  replace hl := D.rd_keep (Keeps.all hb) _ _ hl
  replace hl1 := D.rd_keep (Keeps.all hb) _ _ hl1
  clear hb
  go_wp2_with fail
  refine (toStrS_is hl hbl).mono ?_
  rintro e w4 ⟨_, rfl, hb, hI⟩
  replace hW := hW.trans (hb.mono hW.size)
  replace hl := D.rd_keep (Keeps.all hb) _ _ hl
  replace hl1 := D.rd_keep (Keeps.all hb) _ _ hl1
  clear hb
  obtain ⟨la2, lc2, rfl, hl2⟩ := IsSS.form hI
  go_wp2_with fail
  refine (impl_JoinStrings hl2 hbl hss).mono ?_
  rintro e w5 ⟨_, rfl, hb, rfl⟩
  replace hW := hW.trans (hb.mono hW.size)
  replace hl := D.rd_keep (Keeps.all hb) _ _ hl
  replace hl1 := D.rd_keep (Keeps.all hb) _ _ hl1
  replace hl2 := D.rd_keep (Keeps.all hb) _ _ hl2
  clear hb
  go_wp2_with fail
  refine (toStrS_is hl hbl).mono ?_
  rintro e w6 ⟨_, rfl, hb, hI⟩
  replace hW := hW.trans (hb.mono hW.size)
  replace hl := D.rd_keep (Keeps.all hb) _ _ hl
  replace hl1 := D.rd_keep (Keeps.all hb) _ _ hl1
  replace hl2 := D.rd_keep (Keeps.all hb) _ _ hl2
  clear hb
  obtain ⟨la3, lc3, rfl, hl3⟩ := IsSS.form hI
  go_wp2_with fail
  refine (eqStrS_refl hl2 hl3).mono ?_
  rintro e w7 ⟨_, rfl, hb, rfl⟩
  replace hW := hW.trans (hb.mono hW.size)
  replace hl := D.rd_keep (Keeps.all hb) _ _ hl
  replace hl1 := D.rd_keep (Keeps.all hb) _ _ hl1
  replace hl2 := D.rd_keep (Keeps.all hb) _ _ hl2
  replace hl3 := D.rd_keep (Keeps.all hb) _ _ hl3
  clear hb
  go_wp2_with fail
  go_ret
  exact ⟨rfl, hW⟩

/-! the row -/
set_option maxRecDepth 100000 in
theorem lifted (os : Os) (started : os.Started) (H : Type) (enc : TypeId × Value → H) :
    ReturnsInHanded {} Try.checked os 4 .any (Rows.fnExactJoinStringsSpec.pre6 enc Try.prog Try.f4 Rows.fnExactJoinStringsRow.domain false) (Rows.fnExactJoinStringsSpec.post enc Try.prog Try.f4 false true false false) := by
  refine returnsInHanded_of_change (C := Try.checked) own started (by kernel_rfl) Try.func4
    (ChangeSpec.witness6 (enc := enc) (C := Try.checked) false ⟨#[], #[.slice none 0 0, .string ByteArray.empty], []⟩ 8 (by kernel_rfl) (by kernel_rfl) (by kernel_rfl) (by kernel_rfl)) ?_
  intro W base args ds gs before hval0 hW _ _
  have hval : ∀ (j : Nat) t v, Try.f4.params[j]? = some t → args[j]? = some v → Value.okWide Try.prog W .any base t v := hval0
  have hW' := hW
  obtain ⟨p, q, hA0, hV, rfl, hfz, hnd⟩ := hW
  have hA : DataW.TrodAll enc Try.prog W 0 (fun _ => true) true Try.f4.params.toList args.toList ds p := hA0
  rw [Try.params4] at hA hval
  obtain ⟨v0, vs0, d0, ds0, p0, q0, hargs, rfl, rfl, h0, r0⟩ := trodAll_cons hA
  obtain ⟨v1, vs1, d1, ds1, p1, q1, rfl, rfl, rfl, h1, r1⟩ := trodAll_cons r0
  obtain ⟨rfl, rfl, rfl⟩ := trodAll_nil r1
  obtain rfl : args = #[v0, v1] := by cases args; simp_all
  obtain ⟨rfl, rfl⟩ := trodVars_none hV
  have k0 := h0
  have k1 := h1
  obtain ⟨l, hl⟩ := open_StringS (hval 0 25 v0 rfl rfl) h0
  obtain ⟨s, rfl, -, -, hs⟩ := open_string Try.underlying9 (hval 1 9 v1 rfl rfl) h1
  clear hA0 hval0
  simp only [List.append_nil] at hW'
  have hlt0 : ∀ x ∈ p0, x.block < W.heap.size := fun x hx => hW'.lt x (by simp [hx])
  have hlt1 : ∀ x ∈ p1, x.block < W.heap.size := fun x hx => hW'.lt x (by simp [hx])
  refine (walk v0 l hl s hs).mono fun e W' ⟨he, hb⟩ => ?_
  subst he
  exact ⟨_, rfl, [d0, d1], [], _, [], p0 ++ (p1 ++ []), [], by simpa using hW', trodAll_cons_mk (shut_bool Try.underlying4 _) trodAll_mk0, (trodAll_cons_mk (Below.trod laidOut (by kernel_rfl) (of_decide_eq_true (by kernel_rfl)) k0 hb hlt0) (trodAll_cons_mk (Below.trod laidOut (by kernel_rfl) (of_decide_eq_true (by kernel_rfl)) k1 hb hlt1) trodAll_mk0)), rfl, hb.frame _, fun h => by cases h⟩

theorem over : Rows.fnExactJoinStringsRow.holds Try.pinned (OpenSpec.ofChange Rows.fnExactJoinStringsSpec) :=
  OpenClaim.holds_of_wide 4 Try.f4 rfl rfl rfl rfl rfl rfl rfl ⟨rfl, rfl, rfl, rfl, rfl⟩ rfl rfl rfl rfl rfl (by kernel_rfl) Try.func4 (by kernel_rfl)
    (of_decide_eq_true (by kernel_rfl)) (by unfold Func.isWrapper; first | (rw [if_pos (by decide +kernel)]; kernel_rfl) | (rw [if_neg (by decide +kernel)]; exact ⟨rfl, rfl⟩))
    (fun os started H enc _ => lifted os started H enc)

theorem proved : Rows.FnExactJoinStringsSaid :=
  over
#print axioms proved
end Go.Proofs.Ytfdlofjkbaajdaa.fnExactJoinStrings
