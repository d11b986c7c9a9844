/- For every input the law FnExactEqualTerms returns true, and each argument reads behind the call as it read before it. No conditions. -/
import Derived.Test.YtgdcbfnnnjlhhaaRows
import Derived.Test.YtgdcbfnnnjlhhaaBrT
import Derived.Test.YtgdcbfnnnjlhhaaSz
import Derived.Test.YtgdcbfnnnjlhhaaTo
import Derived.Test.YtgdcbfnnnjlhhaaEq
import Derived.Test.YtgdcbfnnnjlhhaaSame
import Derived.OpenShut
import Derived.ShutString
namespace Go.Proofs.Ytgdcbfnnnjlhhaa.fnExactEqualTerms
open Go.ChangeShapes Go.WideShapes Go.ChangeAt Go.RowKit

set_option maxHeartbeats 1000000 in
theorem walk (t0 t1 : Value) (t : Tm) {w : World} (ht : Tm.at (fun _ => True) w t0 t1 t) (u0 u1 : Value) (u : Tm) (hu : Tm.at (fun _ => True) w u0 u1 u) :
    Calls Try.prog 6 #[.agg #[t0, t1], .agg #[u0, u1]] w fun e w' => e = .returned (.bool true) ∧ Below w.heap.size w w' := by
  obtain ⟨rfl, -, a, cap, rfl⟩ := Tm.at_form ht
  obtain ⟨rfl, -, a', cap', rfl⟩ := Tm.at_form hu
  have hW : Below w.heap.size w ((w.alloc (.cells #[.string t.name, .slice a t.args.length cap] 29)).alloc (.cells #[.string u.name, .slice a' u.args.length cap'] 29)) := ((Below.refl _ _).alloc (Nat.le_refl _) _).alloc (by simp) _
  have bA : Box ((w.alloc (.cells #[.string t.name, .slice a t.args.length cap] 29)).alloc (.cells #[.string u.name, .slice a' u.args.length cap'] 29)) w.heap.size [.string t.name, .slice a t.args.length cap] := (Box.new w _ _).alloc _
  have bB : Box ((w.alloc (.cells #[.string t.name, .slice a t.args.length cap] 29)).alloc (.cells #[.string u.name, .slice a' u.args.length cap'] 29)) (w.heap.size + 1) [.string u.name, .slice a' u.args.length cap'] := by
    have := Box.new (w.alloc (.cells #[.string t.name, .slice a t.args.length cap] 29)) [.string u.name, .slice a' u.args.length cap'] 29
    rwa [World.size_alloc] at this
  replace ht := Tm.at_keep (Keeps.all hW) ht
  replace hu := Tm.at_keep (Keeps.all hW) hu
  go_enter Try.func6, Try.ntmps6
  go_wp2_with fail
  generalize ((w.alloc (.cells #[.string t.name, .slice a t.args.length cap] 29)).alloc (.cells #[.string u.name, .slice a' u.args.length cap'] 29)) = w0 at *
  refine (szTerm_any t _ _ _ _ _ ht (by omega) (by omega)).mono ?_
  rintro e w1 ⟨rfl, hb⟩
  replace hW := hW.trans (hb.mono hW.size)
  replace bA := bA.keep hb
  replace bB := bB.keep hb
  replace ht := Tm.at_keep (Keeps.all hb) ht
  replace hu := Tm.at_keep (Keeps.all hb) hu
  clear hb
  by_cases hs : (t.bulk : Int) ≤ 1048576
  · rw [after_pos hs]
    have eA0 := bA.c0
    have eA1 := bA.c1
    have eB0 := bB.c0
    have eB1 := bB.c1
    go_wp2_with fail
    refine (szTerm_any u _ _ _ _ _ hu (by omega) (by omega)).mono ?_
    rintro e w2 ⟨rfl, hb⟩
    replace hW := hW.trans (hb.mono hW.size)
    replace bA := bA.keep hb
    replace bB := bB.keep hb
    replace ht := Tm.at_keep (Keeps.all hb) ht
    replace hu := Tm.at_keep (Keeps.all hb) hu
    clear hb eA0 eA1 eB0 eB1
    by_cases hs2 : (u.bulk : Int) ≤ 1048576 - t.bulk
    · rw [after_pos hs2]
      have hbt : t.bulk ≤ 1048576 := by omega
      have hbu : u.bulk ≤ 1048576 := by omega
      have eA0 := bA.c0
      have eA1 := bA.c1
      have eB0 := bB.c0
      have eB1 := bB.c1
      have lA := bA.lt
      have lB := bB.lt
      go_wp2_with fail
      refine wp_region_B [fun v _ => v = .agg #[.string t.name, .slice a t.args.length cap], Is t, fun v _ => v = .agg #[.string u.name, .slice a' u.args.length cap'], Is u, fun v _ => v = .bool (Tm.eqb t u), fun v _ => v = .bool (Tm.eqb t u)] _ (fun V => by simp [putAll, Act.put]; rfl) (by kernel_rfl) (by decide) (by simp) (by kernel_rfl) ?_ ?_ ?_
      · intro F hF
        simp only [List.mem_cons, List.not_mem_nil, or_false] at hF
        rcases hF with rfl | rfl | rfl | rfl | rfl | rfl
        · exact stable_eq
        · exact Is.stable
        · exact stable_eq
        · exact Is.stable
        · exact stable_eq
        · exact stable_eq
      · refine ⟨?_, ?_, ?_, ?_, ?_, ?_, trivial⟩
        · intro V w1 hbR _
          obtain ⟨hc, hf⟩ := bcell hbR
          try simp only [World.size_alloc, World.size_setCell] at hc hf
          unfold Does
          go_simp
          exact ⟨Below.refl _ _, rfl⟩
        · intro V w1 hbR ⟨f0, _⟩
          replace f0 : V 0 = .agg #[.string t.name, .slice a t.args.length cap] := f0
          obtain ⟨hc, hf⟩ := bcell hbR
          try simp only [World.size_alloc, World.size_setCell] at hc hf
          unfold Does
          go_simp
          exact toTerm_is (Tm.at_keep (Keeps.all hbR) ht) hbt
        · intro V w1 hbR _
          obtain ⟨hc, hf⟩ := bcell hbR
          try simp only [World.size_alloc, World.size_setCell] at hc hf
          unfold Does
          go_simp
          exact ⟨Below.refl _ _, rfl⟩
        · intro V w1 hbR ⟨f2, f1, _⟩
          replace f1 : (Is t) (V 1) w1 := f1
          replace f2 : V 2 = .agg #[.string u.name, .slice a' u.args.length cap'] := f2
          obtain ⟨hc, hf⟩ := bcell hbR
          try simp only [World.size_alloc, World.size_setCell] at hc hf
          unfold Does
          go_simp
          exact toTerm_is (Tm.at_keep (Keeps.all hbR) hu) hbu
        · intro V w1 hbR ⟨f1, f3, _, _⟩
          replace f1 : (Is t) (V 1) w1 := f1
          replace f3 : (Is u) (V 3) w1 := f3
          obtain ⟨v1, e1, g1⟩ := f1; obtain ⟨v3, e3, g3⟩ := f3
          obtain ⟨hc, hf⟩ := bcell hbR
          try simp only [World.size_alloc, World.size_setCell] at hc hf
          unfold Does
          go_simp
          refine (specEqual_any t u _ _ _ _ _ _ g1 g3).mono ?_; rintro e w' ⟨rfl, hb⟩; exact ⟨_, rfl, hb, rfl⟩
        · intro V w1 hbR ⟨f4, _, f0, f1, f2, f3, _, _⟩
          replace f0 : V 0 = .agg #[.string t.name, .slice a t.args.length cap] := f0
          replace f1 : (Is t) (V 1) w1 := f1
          replace f2 : V 2 = .agg #[.string u.name, .slice a' u.args.length cap'] := f2
          replace f3 : (Is u) (V 3) w1 := f3
          replace f4 : V 4 = .bool (Tm.eqb t u) := f4
          unfold Does
          go_simp
          exact ⟨Below.refl _ _, rfl⟩
      intro V w1 hbR hfR
      obtain ⟨f0, f1, f2, f3, f4, f5, _⟩ := hfR
      replace f0 : V 0 = .agg #[.string t.name, .slice a t.args.length cap] := f0
      replace f1 : (Is t) (V 1) w1 := f1
      replace f2 : V 2 = .agg #[.string u.name, .slice a' u.args.length cap'] := f2
      replace f3 : (Is u) (V 3) w1 := f3
      replace f4 : V 4 = .bool (Tm.eqb t u) := f4
      replace f5 : V 5 = .bool (Tm.eqb t u) := f5
      simp only [f0, f2, f4, f5]
      clear f0 f2 f4 f5
      have hb := hbR
      replace hW := hW.trans (hb.mono hW.size)
      replace bA := bA.keep hb
      replace bB := bB.keep hb
      replace ht := Tm.at_keep (Keeps.all hb) ht
      replace hu := Tm.at_keep (Keeps.all hb) hu
      clear hb hbR f1 f3 eA0 eA1 eB0 eB1 lA lB
      have eA0 := bA.c0
      have eA1 := bA.c1
      go_wp2_with fail
      refine (toTerm_any t _ _ _ _ ht hbt).mono ?_
      rintro e w4 ⟨v, F, rfl, ho, hF, hb⟩
      replace hW := hW.trans (hb.mono hW.size)
      replace bA := bA.keep hb
      replace bB := bB.keep hb
      replace ht := Tm.at_keep (Keeps.all hb) ht
      replace hu := Tm.at_keep (Keeps.all hb) hu
      obtain ⟨x, xc, rfl⟩ := Tm.sd_own_form ho
      clear hb eA0 eA1
      have hx : Tm.at (fun _ => True) w4 (.string t.name) (.slice x t.args.length xc) t := ⟨ht.1, D.rd_mono (fun _ _ => trivial) _ _ (D.own_rd _ _ _ ho)⟩
      clear ho hF
      have hb : Below w4.heap.size w4 (w4.alloc (.cells #[.string t.name, .slice x t.args.length xc] 34)) := (Below.refl _ _).alloc (Nat.le_refl _) _
      have bX : Box (w4.alloc (.cells #[.string t.name, .slice x t.args.length xc] 34)) w4.heap.size [.string t.name, .slice x t.args.length xc] := Box.new _ _ _
      replace hW := hW.trans (hb.mono hW.size)
      replace bA := bA.keep hb
      replace bB := bB.keep hb
      replace ht := Tm.at_keep (Keeps.all hb) ht
      replace hu := Tm.at_keep (Keeps.all hb) hu
      replace hx := Tm.at_keep (Keeps.all hb) hx
      clear hb
      have eB0 := bB.c0
      have eB1 := bB.c1
      go_wp2_with fail
      refine (toTerm_any u _ _ _ _ hu hbu).mono ?_
      rintro e w5 ⟨v, F, rfl, ho, hF, hb⟩
      replace hW := hW.trans (hb.mono hW.size)
      replace bA := bA.keep hb
      replace bB := bB.keep hb
      replace bX := bX.keep hb
      replace ht := Tm.at_keep (Keeps.all hb) ht
      replace hu := Tm.at_keep (Keeps.all hb) hu
      replace hx := Tm.at_keep (Keeps.all hb) hx
      obtain ⟨y, yc, rfl⟩ := Tm.sd_own_form ho
      clear hb eB0 eB1
      have hy : Tm.at (fun _ => True) w5 (.string u.name) (.slice y u.args.length yc) u := ⟨hu.1, D.rd_mono (fun _ _ => trivial) _ _ (D.own_rd _ _ _ ho)⟩
      clear ho hF
      have hb : Below w5.heap.size w5 (w5.alloc (.cells #[.string u.name, .slice y u.args.length yc] 34)) := (Below.refl _ _).alloc (Nat.le_refl _) _
      have bY : Box (w5.alloc (.cells #[.string u.name, .slice y u.args.length yc] 34)) w5.heap.size [.string u.name, .slice y u.args.length yc] := Box.new _ _ _
      replace hW := hW.trans (hb.mono hW.size)
      replace bA := bA.keep hb
      replace bB := bB.keep hb
      replace bX := bX.keep hb
      replace ht := Tm.at_keep (Keeps.all hb) ht
      replace hu := Tm.at_keep (Keeps.all hb) hu
      replace hx := Tm.at_keep (Keeps.all hb) hx
      replace hy := Tm.at_keep (Keeps.all hb) hy
      clear hb
      have eX0 := bX.c0
      have eX1 := bX.c1
      have eY0 := bY.c0
      have eY1 := bY.c1
      go_wp2_with fail
      refine (equalTerms_any t u _ _ _ _ _ _ hx hy).mono ?_
      rintro e w6 ⟨rfl, hb⟩
      replace hW := hW.trans (hb.mono hW.size)
      replace bA := bA.keep hb
      replace bB := bB.keep hb
      replace bX := bX.keep hb
      replace ht := Tm.at_keep (Keeps.all hb) ht
      replace hu := Tm.at_keep (Keeps.all hb) hu
      replace hx := Tm.at_keep (Keeps.all hb) hx
      replace bY := bY.keep hb
      replace hy := Tm.at_keep (Keeps.all hb) hy
      clear hb eX0 eX1 eY0 eY1
      have eA0 := bA.c0
      have eA1 := bA.c1
      have eB0 := bB.c0
      have eB1 := bB.c1
      have eX0 := bX.c0
      have eX1 := bX.c1
      have eY0 := bY.c0
      have eY1 := bY.c1
      have lA := bA.lt
      have lB := bB.lt
      have lX := bX.lt
      have lY := bY.lt
      have hq : (Tm.eqb t u != Tm.eqb t u) = false := by simp
      go_wp2_with fail
      have htt : Tm.eqb t t = true := (Tm.eqb_iff _ _).2 rfl
      have huu : Tm.eqb u u = true := (Tm.eqb_iff _ _).2 rfl
      refine wp_region_B [fun v _ => v = .agg #[.string t.name, .slice x t.args.length xc], fun v _ => v = .agg #[.string t.name, .slice a t.args.length cap], Is t, fun v _ => v = .bool true, fun v _ => v = .bool false] _ (fun V => by simp [putAll, Act.put]; rfl) (by kernel_rfl) (by decide) (by simp) (by kernel_rfl) ?_ ?_ ?_
      · intro F hF
        simp only [List.mem_cons, List.not_mem_nil, or_false] at hF
        rcases hF with rfl | rfl | rfl | rfl | rfl
        · exact stable_eq
        · exact stable_eq
        · exact Is.stable
        · exact stable_eq
        · exact stable_eq
      · refine ⟨?_, ?_, ?_, ?_, ?_, trivial⟩
        · intro V w1 hbR _
          obtain ⟨hc, hf⟩ := bcell hbR
          try simp only [World.size_alloc, World.size_setCell] at hc hf
          unfold Does
          go_simp
          exact ⟨Below.refl _ _, rfl⟩
        · intro V w1 hbR _
          obtain ⟨hc, hf⟩ := bcell hbR
          try simp only [World.size_alloc, World.size_setCell] at hc hf
          unfold Does
          go_simp
          exact ⟨Below.refl _ _, rfl⟩
        · intro V w1 hbR ⟨f1, _⟩
          replace f1 : V 1 = .agg #[.string t.name, .slice a t.args.length cap] := f1
          obtain ⟨hc, hf⟩ := bcell hbR
          try simp only [World.size_alloc, World.size_setCell] at hc hf
          unfold Does
          go_simp
          exact toTerm_is (Tm.at_keep (Keeps.all hbR) ht) hbt
        · intro V w1 hbR ⟨f0, f2, _, _⟩
          replace f0 : V 0 = .agg #[.string t.name, .slice x t.args.length xc] := f0
          replace f2 : (Is t) (V 2) w1 := f2
          obtain ⟨v2, e2, g2⟩ := f2
          obtain ⟨hc, hf⟩ := bcell hbR
          try simp only [World.size_alloc, World.size_setCell] at hc hf
          unfold Does
          go_simp
          refine (eqTerm_any t t _ _ _ _ _ _ (Tm.at_keep (Keeps.all hbR) hx) g2).mono ?_; rintro e w' ⟨rfl, hb⟩; exact ⟨_, rfl, hb, by rw [htt]⟩
        · intro V w1 hbR ⟨f3, _⟩
          replace f3 : V 3 = .bool true := f3
          unfold Does
          go_simp
          exact ⟨Below.refl _ _, rfl⟩
      intro V w1 hbR hfR
      obtain ⟨f0, f1, f2, f3, f4, _⟩ := hfR
      replace f0 : V 0 = .agg #[.string t.name, .slice x t.args.length xc] := f0
      replace f1 : V 1 = .agg #[.string t.name, .slice a t.args.length cap] := f1
      replace f2 : (Is t) (V 2) w1 := f2
      replace f3 : V 3 = .bool true := f3
      replace f4 : V 4 = .bool false := f4
      simp only [f0, f1, f3, f4]
      clear f0 f1 f3 f4
      have hb := hbR
      replace hW := hW.trans (hb.mono hW.size)
      replace bA := bA.keep hb
      replace bB := bB.keep hb
      replace bX := bX.keep hb
      replace ht := Tm.at_keep (Keeps.all hb) ht
      replace hu := Tm.at_keep (Keeps.all hb) hu
      replace hx := Tm.at_keep (Keeps.all hb) hx
      replace bY := bY.keep hb
      replace hy := Tm.at_keep (Keeps.all hb) hy
      clear hb hbR f2 eA0 eA1 eB0 eB1 eX0 eX1 eY0 eY1 lA lB lX lY
      have eA0 := bA.c0
      have eA1 := bA.c1
      have eB0 := bB.c0
      have eB1 := bB.c1
      have eX0 := bX.c0
      have eX1 := bX.c1
      have eY0 := bY.c0
      have eY1 := bY.c1
      have lA := bA.lt
      have lB := bB.lt
      have lX := bX.lt
      have lY := bY.lt
      go_wp2_with fail
      refine wp_region_B [fun v _ => v = .agg #[.string u.name, .slice y u.args.length yc], fun v _ => v = .agg #[.string u.name, .slice a' u.args.length cap'], Is u, fun v _ => v = .bool true, fun v _ => v = .bool false] _ (fun V => by simp [putAll, Act.put]; rfl) (by kernel_rfl) (by decide) (by simp) (by kernel_rfl) ?_ ?_ ?_
      · intro F hF
        simp only [List.mem_cons, List.not_mem_nil, or_false] at hF
        rcases hF with rfl | rfl | rfl | rfl | rfl
        · exact stable_eq
        · exact stable_eq
        · exact Is.stable
        · exact stable_eq
        · exact stable_eq
      · refine ⟨?_, ?_, ?_, ?_, ?_, trivial⟩
        · intro V w1 hbR _
          obtain ⟨hc, hf⟩ := bcell hbR
          try simp only [World.size_alloc, World.size_setCell] at hc hf
          unfold Does
          go_simp
          exact ⟨Below.refl _ _, rfl⟩
        · intro V w1 hbR _
          obtain ⟨hc, hf⟩ := bcell hbR
          try simp only [World.size_alloc, World.size_setCell] at hc hf
          unfold Does
          go_simp
          exact ⟨Below.refl _ _, rfl⟩
        · intro V w1 hbR ⟨f1, _⟩
          replace f1 : V 1 = .agg #[.string u.name, .slice a' u.args.length cap'] := f1
          obtain ⟨hc, hf⟩ := bcell hbR
          try simp only [World.size_alloc, World.size_setCell] at hc hf
          unfold Does
          go_simp
          exact toTerm_is (Tm.at_keep (Keeps.all hbR) hu) hbu
        · intro V w1 hbR ⟨f0, f2, _, _⟩
          replace f0 : V 0 = .agg #[.string u.name, .slice y u.args.length yc] := f0
          replace f2 : (Is u) (V 2) w1 := f2
          obtain ⟨v2, e2, g2⟩ := f2
          obtain ⟨hc, hf⟩ := bcell hbR
          try simp only [World.size_alloc, World.size_setCell] at hc hf
          unfold Does
          go_simp
          refine (eqTerm_any u u _ _ _ _ _ _ (Tm.at_keep (Keeps.all hbR) hy) g2).mono ?_; rintro e w' ⟨rfl, hb⟩; exact ⟨_, rfl, hb, by rw [huu]⟩
        · intro V w1 hbR ⟨f3, _⟩
          replace f3 : V 3 = .bool true := f3
          unfold Does
          go_simp
          exact ⟨Below.refl _ _, rfl⟩
      intro V w1 hbR hfR
      obtain ⟨f0, f1, f2, f3, f4, _⟩ := hfR
      replace f0 : V 0 = .agg #[.string u.name, .slice y u.args.length yc] := f0
      replace f1 : V 1 = .agg #[.string u.name, .slice a' u.args.length cap'] := f1
      replace f2 : (Is u) (V 2) w1 := f2
      replace f3 : V 3 = .bool true := f3
      replace f4 : V 4 = .bool false := f4
      simp only [f0, f1, f3, f4]
      clear f0 f1 f3 f4
      replace hW := hW.trans (hbR.mono hW.size)
      clear hbR f2 eA0 eA1 eB0 eB1 eX0 eX1 eY0 eY1 lA lB lX lY
      go_wp2_with fail
      go_ret
      exact ⟨rfl, hW⟩
    · rw [after_neg (by omega)]
      go_wp2_with fail
      go_ret
      exact ⟨rfl, hW⟩
  · rw [after_neg (by omega)]
    go_wp2_with fail
    go_ret
    exact ⟨rfl, hW⟩

/-! the row -/
set_option maxRecDepth 100000 in
theorem lifted (os : Os) (started : os.Started) (H : Type) (enc : TypeId × Value → H) :
    ReturnsInHanded {} Try.checked os 6 .any (Rows.fnExactEqualTermsSpec.pre6 enc Try.prog Try.f6 Rows.fnExactEqualTermsRow.domain false) (Rows.fnExactEqualTermsSpec.post enc Try.prog Try.f6 false true false false) := by
  refine returnsInHanded_of_change (C := Try.checked) own started (by kernel_rfl) Try.func6
    (ChangeSpec.witness6 (enc := enc) (C := Try.checked) false ⟨#[], #[.agg #[.string ByteArray.empty, .slice none 0 0], .agg #[.string ByteArray.empty, .slice none 0 0]], []⟩ 8 (by kernel_rfl) (by kernel_rfl) (by kernel_rfl) (by kernel_rfl)) ?_
  intro W base args ds gs before hval0 hW _ _
  have hval : ∀ (j : Nat) t v, Try.f6.params[j]? = some t → args[j]? = some v → Value.okWide Try.prog W .any base t v := hval0
  have hW' := hW
  obtain ⟨p, q, hA0, hV, rfl, hfz, hnd⟩ := hW
  have hA : DataW.TrodAll enc Try.prog W 0 (fun _ => true) true Try.f6.params.toList args.toList ds p := hA0
  rw [Try.params6] at hA hval
  obtain ⟨v0, vs0, d0, ds0, p0, q0, hargs, rfl, rfl, h0, r0⟩ := trodAll_cons hA
  obtain ⟨v1, vs1, d1, ds1, p1, q1, rfl, rfl, rfl, h1, r1⟩ := trodAll_cons r0
  obtain ⟨rfl, rfl, rfl⟩ := trodAll_nil r1
  obtain rfl : args = #[v0, v1] := by cases args; simp_all
  obtain ⟨rfl, rfl⟩ := trodVars_none hV
  have k0 := h0
  have k1 := h1
  obtain ⟨t0, t1, t, rfl, ht⟩ := open_Term (hval 0 29 v0 rfl rfl) h0
  obtain ⟨u0, u1, u, rfl, hu⟩ := open_Term (hval 1 29 v1 rfl rfl) h1
  clear hA0 hval0
  simp only [List.append_nil] at hW'
  have hlt0 : ∀ x ∈ p0, x.block < W.heap.size := fun x hx => hW'.lt x (by simp [hx])
  have hlt1 : ∀ x ∈ p1, x.block < W.heap.size := fun x hx => hW'.lt x (by simp [hx])
  refine (walk t0 t1 t ht u0 u1 u hu).mono fun e W' ⟨he, hb⟩ => ?_
  subst he
  exact ⟨_, rfl, [d0, d1], [], _, [], p0 ++ (p1 ++ []), [], by simpa using hW', trodAll_cons_mk (shut_bool Try.underlying4 _) trodAll_mk0, (trodAll_cons_mk (Below.trod laidOut (by kernel_rfl) (of_decide_eq_true (by kernel_rfl)) k0 hb hlt0) (trodAll_cons_mk (Below.trod laidOut (by kernel_rfl) (of_decide_eq_true (by kernel_rfl)) k1 hb hlt1) trodAll_mk0)), rfl, hb.frame _, fun h => by cases h⟩

theorem over : Rows.fnExactEqualTermsRow.holds Try.pinned (OpenSpec.ofChange Rows.fnExactEqualTermsSpec) :=
  OpenClaim.holds_of_wide 6 Try.f6 rfl rfl rfl rfl rfl rfl rfl ⟨rfl, rfl, rfl, rfl, rfl⟩ rfl rfl rfl rfl rfl (by kernel_rfl) Try.func6 (by kernel_rfl)
    (of_decide_eq_true (by kernel_rfl)) (by unfold Func.isWrapper; first | (rw [if_pos (by decide +kernel)]; kernel_rfl) | (rw [if_neg (by decide +kernel)]; exact ⟨rfl, rfl⟩))
    (fun os started H enc _ => lifted os started H enc)

theorem proved : Rows.FnExactEqualTermsSaid :=
  over
#print axioms proved
end Go.Proofs.Ytgdcbfnnnjlhhaa.fnExactEqualTerms
