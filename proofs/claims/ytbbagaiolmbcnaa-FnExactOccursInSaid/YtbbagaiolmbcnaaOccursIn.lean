/- For every input the law FnExactOccursIn returns true, and each argument reads behind the call as it read before it. No conditions. -/
import Derived.Test.YtbbagaiolmbcnaaRows
import Derived.Test.YtbbagaiolmbcnaaBrT
import Derived.Test.YtbbagaiolmbcnaaSz
import Derived.Test.YtbbagaiolmbcnaaTo
import Derived.Test.YtbbagaiolmbcnaaEq
import Derived.Test.YtbbagaiolmbcnaaOc
import Derived.OpenShut
import Derived.ShutString
namespace Go.Proofs.Ytbbagaiolmbcnaa.fnExactOccursIn
set_option maxRecDepth 100000
open Go.ChangeShapes Go.WideShapes Go.ChangeAt Go.RowKit
open Go.ChangeMaps (open_string shut_string)

set_option maxHeartbeats 2000000 in
theorem walk (s : ByteArray) {w : World} (_hs : s.size ≤ maxLen) (t0 t1 : Value) (t : Tm) (ht : Tm.at (fun _ => True) w t0 t1 t) :
    Calls Try.prog 10 #[.string s, .agg #[t0, t1]] w fun e w' => e = .returned (.bool true) ∧ Below w.heap.size w w' := by
  obtain ⟨rfl, -, ta0, tc0, rfl⟩ := Tm.at_form ht
  have hW : Below w.heap.size w (w.alloc (.cells #[.string t.name, .slice ta0 t.args.length tc0] 24)) := (Below.refl _ _).alloc (Nat.le_refl _) _
  have bt : Box (w.alloc (.cells #[.string t.name, .slice ta0 t.args.length tc0] 24)) (w.heap.size) [.string t.name, .slice ta0 t.args.length tc0] := by
    have := (Box.new w [.string t.name, .slice ta0 t.args.length tc0] 24)
    simpa only [World.size_alloc] using this
  replace ht := Tm.at_keep (Keeps.all hW) ht
  go_enter Try.func10, Try.ntmps10
  by_cases hss : s.size ≤ 1048576
  rotate_left
  · go_wp2_with fail
    go_ret
    exact ⟨rfl, hW⟩
  have ebt0 := bt.c0
  have ebt1 := bt.c1
  have lbt := bt.lt
  go_wp2_with fail
  generalize (w.alloc (.cells #[.string t.name, .slice ta0 t.args.length tc0] 24)) = w0 at *
  refine (szTerm_any t _ _ _ _ _ ht (by omega) (by omega)).mono ?_
  rintro e w1 ⟨rfl, hb⟩
  replace hW := hW.trans (hb.mono hW.size)
  replace bt := bt.keep hb
  replace ht := Tm.at_keep (Keeps.all hb) ht
  clear ebt0 ebt1 lbt hb
  by_cases hzt : (t.bulk : Int) ≤ 1048576
  rotate_left
  · rw [after_neg (by omega)]
    go_wp2_with fail
    go_ret
    exact ⟨rfl, hW⟩
  rw [after_pos hzt]
  have hbt : t.bulk ≤ 1048576 := by omega
  have ebt0 := bt.c0
  have ebt1 := bt.c1
  have lbt := bt.lt
  go_wp2_with fail
  refine (toTerm_is ht hbt).mono ?_
  rintro e w2 ⟨_, rfl, hb, hI⟩
  replace hW := hW.trans (hb.mono hW.size)
  replace bt := bt.keep hb
  replace ht := Tm.at_keep (Keeps.all hb) ht
  clear ebt0 ebt1 lbt hb
  obtain ⟨ta1, tc1, rfl, ht1⟩ := Is.form hI
  have ebt0 := bt.c0
  have ebt1 := bt.c1
  have lbt := bt.lt
  go_wp2_with fail
  refine (spec_OccursIn hss ht1 hbt).mono ?_
  rintro e w3 ⟨_, rfl, hb, rfl⟩
  replace hW := hW.trans (hb.mono hW.size)
  replace bt := bt.keep hb
  replace ht := Tm.at_keep (Keeps.all hb) ht
  replace ht1 := Tm.at_keep (Keeps.all hb) ht1
  clear ebt0 ebt1 lbt hb
  have ebt0 := bt.c0
  have ebt1 := bt.c1
  have lbt := bt.lt
  go_wp2_with fail
  refine (toTerm_is ht hbt).mono ?_
  rintro e w4 ⟨_, rfl, hb, hI⟩
  replace hW := hW.trans (hb.mono hW.size)
  replace bt := bt.keep hb
  replace ht := Tm.at_keep (Keeps.all hb) ht
  replace ht1 := Tm.at_keep (Keeps.all hb) ht1
  clear ebt0 ebt1 lbt hb
  obtain ⟨ta2, tc2, rfl, ht2⟩ := Is.form hI
  have hb : Below w4.heap.size w4 (w4.alloc (.cells #[.string t.name, .slice ta2 t.args.length tc2] 29)) := (Below.refl _ _).alloc (Nat.le_refl _) _
  have Bt : Box (w4.alloc (.cells #[.string t.name, .slice ta2 t.args.length tc2] 29)) w4.heap.size [.string t.name, .slice ta2 t.args.length tc2] := Box.new _ _ _
  replace hW := hW.trans (hb.mono hW.size)
  replace bt := bt.keep hb
  replace ht := Tm.at_keep (Keeps.all hb) ht
  replace ht1 := Tm.at_keep (Keeps.all hb) ht1
  replace ht2 := Tm.at_keep (Keeps.all hb) ht2
  clear hb
  have ebt0 := bt.c0
  have ebt1 := bt.c1
  have lbt := bt.lt
  have eBt0 := Bt.c0
  have eBt1 := Bt.c1
  have lBt := Bt.lt
  go_wp2_with fail
  refine (impl_OccursIn hss ht2 hbt).mono ?_
  rintro e w5 ⟨_, rfl, hb, rfl⟩
  replace hW := hW.trans (hb.mono hW.size)
  replace bt := bt.keep hb
  replace ht := Tm.at_keep (Keeps.all hb) ht
  replace ht1 := Tm.at_keep (Keeps.all hb) ht1
  replace ht2 := Tm.at_keep (Keeps.all hb) ht2
  replace Bt := Bt.keep hb
  clear ebt0 ebt1 lbt eBt0 eBt1 lBt hb
  have ebt0 := bt.c0
  have ebt1 := bt.c1
  have lbt := bt.lt
  have eBt0 := Bt.c0
  have eBt1 := Bt.c1
  have lBt := Bt.lt
  go_wp2_with fail
  refine wp_region_B [fun v _ => v = .agg #[.string t.name, .slice ta2 t.args.length tc2], fun v _ => v = .agg #[.string t.name, .slice ta0 t.args.length tc0], Is t, fun v _ => v = .bool true, fun v _ => v = .bool false] _ (fun V => by simp [putAll, Act.put]; rfl) (by kernel_rfl) (by decide) (by simp) (by kernel_rfl) ?_ ?_ ?_
  · intro F hF
    simp only [List.mem_cons, List.not_mem_nil, or_false] at hF
    rcases hF with rfl | rfl | rfl | rfl | rfl
    · exact stable_eq
    · exact stable_eq
    · exact Is.stable
    · exact stable_eq
    · exact stable_eq
  · refine ⟨?_, ?_, ?_, ?_, ?_, trivial⟩
    · intro V w1 hbR _
      obtain ⟨hc, hf⟩ := bcell hbR
      try simp only [World.size_alloc, World.size_setCell] at hc hf
      unfold Does
      go_simp
      exact ⟨Below.refl _ _, rfl⟩
    · intro V w1 hbR _
      obtain ⟨hc, hf⟩ := bcell hbR
      try simp only [World.size_alloc, World.size_setCell] at hc hf
      unfold Does
      go_simp
      exact ⟨Below.refl _ _, rfl⟩
    · intro V w1 hbR ⟨f1, _⟩
      replace f1 : V 1 = .agg #[.string t.name, .slice ta0 t.args.length tc0] := f1
      obtain ⟨hc, hf⟩ := bcell hbR
      try simp only [World.size_alloc, World.size_setCell] at hc hf
      unfold Does
      go_simp
      exact toTerm_is (Tm.at_keep (Keeps.all hbR) ht) hbt
    · intro V w1 hbR ⟨f0, f2, _, _⟩
      replace f0 : V 0 = .agg #[.string t.name, .slice ta2 t.args.length tc2] := f0
      replace f2 : (Is t) (V 2) w1 := f2
      obtain ⟨_, _, E2, g2⟩ := Is.form f2
      obtain ⟨hc, hf⟩ := bcell hbR
      try simp only [World.size_alloc, World.size_setCell] at hc hf
      unfold Does
      go_simp
      exact eqTerm_refl (Tm.at_keep (Keeps.all hbR) ht2) g2
    · intro V w1 hbR ⟨f3, _⟩
      replace f3 : V 3 = .bool true := f3
      unfold Does
      go_simp
      exact ⟨Below.refl _ _, rfl⟩
  intro V w6 hbR hfR
  obtain ⟨f0, f1, f2, f3, f4, _⟩ := hfR
  replace f0 : V 0 = .agg #[.string t.name, .slice ta2 t.args.length tc2] := f0
  replace f1 : V 1 = .agg #[.string t.name, .slice ta0 t.args.length tc0] := f1
  replace f2 : (Is t) (V 2) w6 := f2
  replace f3 : V 3 = .bool true := f3
  replace f4 : V 4 = .bool false := f4
  simp only [f0, f1, f3, f4]
  clear f0 f1 f3 f4
  have hb := hbR
  replace hW := hW.trans (hb.mono hW.size)
  replace bt := bt.keep hb
  replace ht := Tm.at_keep (Keeps.all hb) ht
  replace ht1 := Tm.at_keep (Keeps.all hb) ht1
  replace ht2 := Tm.at_keep (Keeps.all hb) ht2
  replace Bt := Bt.keep hb
  clear ebt0 ebt1 lbt eBt0 eBt1 lBt hb hbR f2
  have ebt0 := bt.c0
  have ebt1 := bt.c1
  have lbt := bt.lt
  have eBt0 := Bt.c0
  have eBt1 := Bt.c1
  have lBt := Bt.lt
  go_wp2_with fail
  go_ret
  exact ⟨rfl, hW⟩

/-! the row -/
set_option maxRecDepth 100000 in
theorem lifted (os : Os) (started : os.Started) (H : Type) (enc : TypeId × Value → H) :
    ReturnsInHanded {} Try.checked os 10 .any (Rows.fnExactOccursInSpec.pre6 enc Try.prog Try.f10 Rows.fnExactOccursInRow.domain false) (Rows.fnExactOccursInSpec.post enc Try.prog Try.f10 false true false false) := by
  refine returnsInHanded_of_change (C := Try.checked) own started (by kernel_rfl) Try.func10
    (ChangeSpec.witness6 (enc := enc) (C := Try.checked) false ⟨#[], #[.string ByteArray.empty, .agg #[.string ByteArray.empty, .slice none 0 0]], []⟩ 8 (by kernel_rfl) (by kernel_rfl) (by kernel_rfl) (by kernel_rfl)) ?_
  intro W base args ds gs before hval0 hW _ _
  have hval : ∀ (j : Nat) t v, Try.f10.params[j]? = some t → args[j]? = some v → Value.okWide Try.prog W .any base t v := hval0
  have hW' := hW
  obtain ⟨p, q, hA0, hV, rfl, hfz, hnd⟩ := hW
  have hA : DataW.TrodAll enc Try.prog W 0 (fun _ => true) true Try.f10.params.toList args.toList ds p := hA0
  rw [Try.params10] at hA hval
  obtain ⟨v0, vs0, d0, ds0, p0, q0, hargs, rfl, rfl, h0, r0⟩ := trodAll_cons hA
  obtain ⟨v1, vs1, d1, ds1, p1, q1, rfl, rfl, rfl, h1, r1⟩ := trodAll_cons r0
  obtain ⟨rfl, rfl, rfl⟩ := trodAll_nil r1
  obtain rfl : args = #[v0, v1] := by cases args; simp_all
  obtain ⟨rfl, rfl⟩ := trodVars_none hV
  have k0 := h0
  have k1 := h1
  obtain ⟨s, rfl, -, -, hs⟩ := open_string Try.underlying9 (hval 0 9 v0 rfl rfl) h0
  obtain ⟨t0, t1, t, rfl, ht⟩ := open_Term (hval 1 24 v1 rfl rfl) h1
  clear hA0 hval0
  simp only [List.append_nil] at hW'
  have hlt0 : ∀ x ∈ p0, x.block < W.heap.size := fun x hx => hW'.lt x (by simp [hx])
  have hlt1 : ∀ x ∈ p1, x.block < W.heap.size := fun x hx => hW'.lt x (by simp [hx])
  refine (walk s hs t0 t1 t ht).mono fun e W' ⟨he, hb⟩ => ?_
  subst he
  exact ⟨_, rfl, [d0, d1], [], _, [], p0 ++ (p1 ++ []), [], by simpa using hW', trodAll_cons_mk (shut_bool Try.underlying4 _) trodAll_mk0, (trodAll_cons_mk (Below.trod laidOut (by kernel_rfl) (of_decide_eq_true (by kernel_rfl)) k0 hb hlt0) (trodAll_cons_mk (Below.trod laidOut (by kernel_rfl) (of_decide_eq_true (by kernel_rfl)) k1 hb hlt1) trodAll_mk0)), rfl, hb.frame _, fun h => by cases h⟩

theorem over : Rows.fnExactOccursInRow.holds Try.pinned (OpenSpec.ofChange Rows.fnExactOccursInSpec) :=
  OpenClaim.holds_of_wide 10 Try.f10 rfl rfl rfl rfl rfl rfl rfl ⟨rfl, rfl, rfl, rfl, rfl⟩ rfl rfl rfl rfl rfl (by kernel_rfl) Try.func10 (by kernel_rfl)
    (of_decide_eq_true (by kernel_rfl)) (by unfold Func.isWrapper; first | (rw [if_pos (by decide +kernel)]; kernel_rfl) | (rw [if_neg (by decide +kernel)]; exact ⟨rfl, rfl⟩))
    (fun os started H enc _ => lifted os started H enc)

theorem proved : Rows.FnExactOccursInSaid :=
  over
#print axioms proved
end Go.Proofs.Ytbbagaiolmbcnaa.fnExactOccursIn
