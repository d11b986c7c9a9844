/- AlphaEqual. -/
import Derived.Test.YthpookgpmnbilaaAi
namespace Go.Proofs.Ythpookgpmnbilaa
set_option maxRecDepth 100000
open Go.RowKit

theorem rd_nil0 {w : World} {a : Option Addr} {c : Nat} : D.rd (fun _ => True) w (.slice a 0 c) (slOf strE []) := by
  rw [slOf, D.rd]
  exact ⟨_, _, rfl, by simp, by simp, by simp, by simp⟩
theorem Fm.valid_forms {t : Fm} (h : t.valid = true) : t.forms = true := by
  rw [Fm.valid, Bool.and_eq_true] at h; exact h.2
set_option maxHeartbeats 1000000 in
theorem spec_AlphaEqual {t u : Fm} {S : Nat → Prop} {c0 c1 c2 c3 c4 d0 d1 d2 d3 d4 : Value} {w : World} (hT : Fm.at S w c0 c1 c2 c3 c4 t) (hbt : t.bulk ≤ 1048576) (hU : Fm.at S w d0 d1 d2 d3 d4 u) (hbu : u.bulk ≤ 1048576) :
    Calls Try.prog 8 #[.agg #[c0, c1, c2, c3, c4], .agg #[d0, d1, d2, d3, d4]] w (Gives w (.tuple #[.bool (Fm.alphaR t u), .bool (t.valid && u.valid)])) := by
  have hsz := Fm.size_bulk t
  by_cases h : t.valid = true
  · have HE := hid h
    by_cases k : u.valid = true
    · have HF := hid k
      have HV : Hid (t.forms = true ∧ u.forms = true) := hid ⟨Fm.valid_forms h, Fm.valid_forms k⟩
      have HS : Hid (Fm.alpha t u [] [] = Fm.alphaR t u) := by rw [Hid, Fm.alphaR, h, k]; rfl
      obtain ⟨rfl, rfl, ⟨a, cap, rfl⟩, rfl, a2, cap2, rfl⟩ := Fm.at_form hT
      obtain ⟨rfl, rfl, ⟨a', cap', rfl⟩, rfl, a2', cap2', rfl⟩ := Fm.at_form hU
      have hW : Below w.heap.size w ((w.alloc (.cells #[.int .i64 t.op, .string t.atom.name, .slice a t.atom.args.length cap, .string t.v, .slice a2 t.parts.length cap2] 36)).alloc (.cells #[.int .i64 u.op, .string u.atom.name, .slice a' u.atom.args.length cap', .string u.v, .slice a2' u.parts.length cap2'] 36)) := ((Below.refl _ _).alloc (Nat.le_refl _) _).alloc (by simp) _
      have bT : Box ((w.alloc (.cells #[.int .i64 t.op, .string t.atom.name, .slice a t.atom.args.length cap, .string t.v, .slice a2 t.parts.length cap2] 36)).alloc (.cells #[.int .i64 u.op, .string u.atom.name, .slice a' u.atom.args.length cap', .string u.v, .slice a2' u.parts.length cap2'] 36)) w.heap.size [.int .i64 t.op, .string t.atom.name, .slice a t.atom.args.length cap, .string t.v, .slice a2 t.parts.length cap2] := (Box.new w _ _).alloc _
      have bU : Box ((w.alloc (.cells #[.int .i64 t.op, .string t.atom.name, .slice a t.atom.args.length cap, .string t.v, .slice a2 t.parts.length cap2] 36)).alloc (.cells #[.int .i64 u.op, .string u.atom.name, .slice a' u.atom.args.length cap', .string u.v, .slice a2' u.parts.length cap2'] 36)) (w.heap.size + 1) [.int .i64 u.op, .string u.atom.name, .slice a' u.atom.args.length cap', .string u.v, .slice a2' u.parts.length cap2'] := by
        have := Box.new (w.alloc (.cells #[.int .i64 t.op, .string t.atom.name, .slice a t.atom.args.length cap, .string t.v, .slice a2 t.parts.length cap2] 36)) [.int .i64 u.op, .string u.atom.name, .slice a' u.atom.args.length cap', .string u.v, .slice a2' u.parts.length cap2'] 36
        simpa only [World.size_alloc] using this
      replace hT := Fm.at_keep (Keeps.all hW) hT
      replace hU := Fm.at_keep (Keeps.all hW) hU
      go_enter Try.func8, Try.ntmps8
      go_wp2_with fail
      generalize ((w.alloc (.cells #[.int .i64 t.op, .string t.atom.name, .slice a t.atom.args.length cap, .string t.v, .slice a2 t.parts.length cap2] 36)).alloc (.cells #[.int .i64 u.op, .string u.atom.name, .slice a' u.atom.args.length cap', .string u.v, .slice a2' u.parts.length cap2'] 36)) = w0 at *
      refine (l8Good_any t hT hbt).mono ?_
      rintro e w1 ⟨_, rfl, hb, rfl⟩
      replace hW := hW.trans (hb.mono hW.size)
      replace bT := bT.keep hb
      replace bU := bU.keep hb
      replace hT := Fm.at_keep (Keeps.all hb) hT
      replace hU := Fm.at_keep (Keeps.all hb) hU
      clear hb
      rw [h]
      have eT0 := bT.c0
      have eT1 := bT.c1
      have eT2 := bT.c2
      have eT3 := bT.c3
      have eT4 := bT.c4
      have eU0 := bU.c0
      have eU1 := bU.c1
      have eU2 := bU.c2
      have eU3 := bU.c3
      have eU4 := bU.c4
      have lT := bT.lt
      have lU := bU.lt
      go_wp2_with fail
      clear eT0 eT1 eT2 eT3 eT4 eU0 eU1 eU2 eU3 eU4 lT lU
      clear h
      refine (l8Good_any u hU hbu).mono ?_
      rintro e w1 ⟨_, rfl, hb, rfl⟩
      replace hW := hW.trans (hb.mono hW.size)
      replace bT := bT.keep hb
      replace bU := bU.keep hb
      replace hT := Fm.at_keep (Keeps.all hb) hT
      replace hU := Fm.at_keep (Keeps.all hb) hU
      clear hb
      rw [k]
      have eT0 := bT.c0
      have eT1 := bT.c1
      have eT2 := bT.c2
      have eT3 := bT.c3
      have eT4 := bT.c4
      have eU0 := bU.c0
      have eU1 := bU.c1
      have eU2 := bU.c2
      have eU3 := bU.c3
      have eU4 := bU.c4
      have lT := bT.lt
      have lU := bU.lt
      go_wp2_with fail
      clear eT0 eT1 eT2 eT3 eT4 eU0 eU1 eU2 eU3 eU4 lT lU
      clear k
      have HB := hid (And.intro hbt hbu)
      have hq := fun w' (hb : Below w1.heap.size w1 w') (vx vy : Value) (hx : Lst w' vx []) (hy : Lst w' vy []) => l8Alpha_any t u [] [] S _ _ _ _ _ _ _ _ _ _ vx vy w' (Fm.at_keep (Keeps.all hb) hT) (Fm.at_keep (Keeps.all hb) hU) hx hy HV.out.1 HV.out.2 HB.out.1 HB.out.2 (by simp; omega) (by simp; omega)
      have HQ := hid hq
      clear hq hT hU
      have eT0 := bT.c0
      have eT1 := bT.c1
      have eT2 := bT.c2
      have eT3 := bT.c3
      have eT4 := bT.c4
      have eU0 := bU.c0
      have eU1 := bU.c1
      have eU2 := bU.c2
      have eU3 := bU.c3
      have eU4 := bU.c4
      have lT := bT.lt
      have lU := bU.lt
      go_wp2_with fail
      refine (HQ.out _ (((Below.refl _ _).alloc (Nat.le_refl _) _).alloc (by simp) _) _ _ ((Lst.made w1).keep ((Below.refl _ _).alloc (Nat.le_refl _) _)) (by simpa using Lst.made (w1.alloc (.cells #[] 9)))).mono ?_
      rintro e w5 ⟨_, rfl, hb, rfl⟩
      have HBB : Hid (Below w1.heap.size w1 w5) := hid ((((Below.refl _ _).alloc (Nat.le_refl _) _).alloc (by simp) _).trans (hb.mono (by simp; omega)))
      clear hb
      go_wp2_with fail
      replace hW := hW.trans (HBB.out.mono hW.size)
      go_ret2
      exact Gives.mk (by rw [HE.out, HF.out, ← HS.out]; rfl) hW
    · replace k : u.valid = false := by simpa using k
      have HF := hid k
      have HS : Hid (Fm.alphaR t u = false) := by rw [Hid, Fm.alphaR, h, k]; rfl
      obtain ⟨rfl, rfl, ⟨a, cap, rfl⟩, rfl, a2, cap2, rfl⟩ := Fm.at_form hT
      obtain ⟨rfl, rfl, ⟨a', cap', rfl⟩, rfl, a2', cap2', rfl⟩ := Fm.at_form hU
      have hW : Below w.heap.size w ((w.alloc (.cells #[.int .i64 t.op, .string t.atom.name, .slice a t.atom.args.length cap, .string t.v, .slice a2 t.parts.length cap2] 36)).alloc (.cells #[.int .i64 u.op, .string u.atom.name, .slice a' u.atom.args.length cap', .string u.v, .slice a2' u.parts.length cap2'] 36)) := ((Below.refl _ _).alloc (Nat.le_refl _) _).alloc (by simp) _
      have bT : Box ((w.alloc (.cells #[.int .i64 t.op, .string t.atom.name, .slice a t.atom.args.length cap, .string t.v, .slice a2 t.parts.length cap2] 36)).alloc (.cells #[.int .i64 u.op, .string u.atom.name, .slice a' u.atom.args.length cap', .string u.v, .slice a2' u.parts.length cap2'] 36)) w.heap.size [.int .i64 t.op, .string t.atom.name, .slice a t.atom.args.length cap, .string t.v, .slice a2 t.parts.length cap2] := (Box.new w _ _).alloc _
      have bU : Box ((w.alloc (.cells #[.int .i64 t.op, .string t.atom.name, .slice a t.atom.args.length cap, .string t.v, .slice a2 t.parts.length cap2] 36)).alloc (.cells #[.int .i64 u.op, .string u.atom.name, .slice a' u.atom.args.length cap', .string u.v, .slice a2' u.parts.length cap2'] 36)) (w.heap.size + 1) [.int .i64 u.op, .string u.atom.name, .slice a' u.atom.args.length cap', .string u.v, .slice a2' u.parts.length cap2'] := by
        have := Box.new (w.alloc (.cells #[.int .i64 t.op, .string t.atom.name, .slice a t.atom.args.length cap, .string t.v, .slice a2 t.parts.length cap2] 36)) [.int .i64 u.op, .string u.atom.name, .slice a' u.atom.args.length cap', .string u.v, .slice a2' u.parts.length cap2'] 36
        simpa only [World.size_alloc] using this
      replace hT := Fm.at_keep (Keeps.all hW) hT
      replace hU := Fm.at_keep (Keeps.all hW) hU
      go_enter Try.func8, Try.ntmps8
      go_wp2_with fail
      generalize ((w.alloc (.cells #[.int .i64 t.op, .string t.atom.name, .slice a t.atom.args.length cap, .string t.v, .slice a2 t.parts.length cap2] 36)).alloc (.cells #[.int .i64 u.op, .string u.atom.name, .slice a' u.atom.args.length cap', .string u.v, .slice a2' u.parts.length cap2'] 36)) = w0 at *
      refine (l8Good_any t hT hbt).mono ?_
      rintro e w1 ⟨_, rfl, hb, rfl⟩
      replace hW := hW.trans (hb.mono hW.size)
      replace bT := bT.keep hb
      replace bU := bU.keep hb
      replace hT := Fm.at_keep (Keeps.all hb) hT
      replace hU := Fm.at_keep (Keeps.all hb) hU
      clear hb
      rw [h]
      have eT0 := bT.c0
      have eT1 := bT.c1
      have eT2 := bT.c2
      have eT3 := bT.c3
      have eT4 := bT.c4
      have eU0 := bU.c0
      have eU1 := bU.c1
      have eU2 := bU.c2
      have eU3 := bU.c3
      have eU4 := bU.c4
      have lT := bT.lt
      have lU := bU.lt
      go_wp2_with fail
      clear eT0 eT1 eT2 eT3 eT4 eU0 eU1 eU2 eU3 eU4 lT lU
      clear h
      refine (l8Good_any u hU hbu).mono ?_
      rintro e w1 ⟨_, rfl, hb, rfl⟩
      replace hW := hW.trans (hb.mono hW.size)
      replace bT := bT.keep hb
      replace bU := bU.keep hb
      replace hT := Fm.at_keep (Keeps.all hb) hT
      replace hU := Fm.at_keep (Keeps.all hb) hU
      clear hb
      rw [k]
      have eT0 := bT.c0
      have eT1 := bT.c1
      have eT2 := bT.c2
      have eT3 := bT.c3
      have eT4 := bT.c4
      have eU0 := bU.c0
      have eU1 := bU.c1
      have eU2 := bU.c2
      have eU3 := bU.c3
      have eU4 := bU.c4
      have lT := bT.lt
      have lU := bU.lt
      go_wp2_with fail
      clear eT0 eT1 eT2 eT3 eT4 eU0 eU1 eU2 eU3 eU4 lT lU
      go_ret2
      exact Gives.mk (by rw [HE.out, HF.out, HS.out]; rfl) hW
  · replace h : t.valid = false := by simpa using h
    have HS : Hid (Fm.alphaR t u = false) := by rw [Hid, Fm.alphaR, h]; rfl
    have HE := hid h
    obtain ⟨rfl, rfl, ⟨a, cap, rfl⟩, rfl, a2, cap2, rfl⟩ := Fm.at_form hT
    obtain ⟨rfl, rfl, ⟨a', cap', rfl⟩, rfl, a2', cap2', rfl⟩ := Fm.at_form hU
    have hW : Below w.heap.size w ((w.alloc (.cells #[.int .i64 t.op, .string t.atom.name, .slice a t.atom.args.length cap, .string t.v, .slice a2 t.parts.length cap2] 36)).alloc (.cells #[.int .i64 u.op, .string u.atom.name, .slice a' u.atom.args.length cap', .string u.v, .slice a2' u.parts.length cap2'] 36)) := ((Below.refl _ _).alloc (Nat.le_refl _) _).alloc (by simp) _
    have bT : Box ((w.alloc (.cells #[.int .i64 t.op, .string t.atom.name, .slice a t.atom.args.length cap, .string t.v, .slice a2 t.parts.length cap2] 36)).alloc (.cells #[.int .i64 u.op, .string u.atom.name, .slice a' u.atom.args.length cap', .string u.v, .slice a2' u.parts.length cap2'] 36)) w.heap.size [.int .i64 t.op, .string t.atom.name, .slice a t.atom.args.length cap, .string t.v, .slice a2 t.parts.length cap2] := (Box.new w _ _).alloc _
    have bU : Box ((w.alloc (.cells #[.int .i64 t.op, .string t.atom.name, .slice a t.atom.args.length cap, .string t.v, .slice a2 t.parts.length cap2] 36)).alloc (.cells #[.int .i64 u.op, .string u.atom.name, .slice a' u.atom.args.length cap', .string u.v, .slice a2' u.parts.length cap2'] 36)) (w.heap.size + 1) [.int .i64 u.op, .string u.atom.name, .slice a' u.atom.args.length cap', .string u.v, .slice a2' u.parts.length cap2'] := by
      have := Box.new (w.alloc (.cells #[.int .i64 t.op, .string t.atom.name, .slice a t.atom.args.length cap, .string t.v, .slice a2 t.parts.length cap2] 36)) [.int .i64 u.op, .string u.atom.name, .slice a' u.atom.args.length cap', .string u.v, .slice a2' u.parts.length cap2'] 36
      simpa only [World.size_alloc] using this
    replace hT := Fm.at_keep (Keeps.all hW) hT
    replace hU := Fm.at_keep (Keeps.all hW) hU
    go_enter Try.func8, Try.ntmps8
    go_wp2_with fail
    generalize ((w.alloc (.cells #[.int .i64 t.op, .string t.atom.name, .slice a t.atom.args.length cap, .string t.v, .slice a2 t.parts.length cap2] 36)).alloc (.cells #[.int .i64 u.op, .string u.atom.name, .slice a' u.atom.args.length cap', .string u.v, .slice a2' u.parts.length cap2'] 36)) = w0 at *
    refine (l8Good_any t hT hbt).mono ?_
    rintro e w1 ⟨_, rfl, hb, rfl⟩
    replace hW := hW.trans (hb.mono hW.size)
    replace bT := bT.keep hb
    replace bU := bU.keep hb
    replace hT := Fm.at_keep (Keeps.all hb) hT
    replace hU := Fm.at_keep (Keeps.all hb) hU
    clear hb
    rw [h]
    have eT0 := bT.c0
    have eT1 := bT.c1
    have eT2 := bT.c2
    have eT3 := bT.c3
    have eT4 := bT.c4
    have eU0 := bU.c0
    have eU1 := bU.c1
    have eU2 := bU.c2
    have eU3 := bU.c3
    have eU4 := bU.c4
    have lT := bT.lt
    have lU := bU.lt
    go_wp2_with fail
    clear eT0 eT1 eT2 eT3 eT4 eU0 eU1 eU2 eU3 eU4 lT lU
    go_ret2
    exact Gives.mk (by rw [HE.out, HS.out]; rfl) hW
set_option maxHeartbeats 1000000 in
theorem impl_AlphaEqual {t u : Fm} {S : Nat → Prop} {c0 c1 c2 c3 c4 d0 d1 d2 d3 d4 : Value} {w : World} (hT : Fm.at S w c0 c1 c2 c3 c4 t) (hbt : t.bulk ≤ 1048576) (hU : Fm.at S w d0 d1 d2 d3 d4 u) (hbu : u.bulk ≤ 1048576) :
    Calls Try.prog 10 #[.agg #[c0, c1, c2, c3, c4], .agg #[d0, d1, d2, d3, d4]] w (Gives w (.tuple #[.bool (Fm.alphaR t u), .bool (t.valid && u.valid)])) := by
  have hsz := Fm.size_bulk t
  by_cases h : t.valid = true
  · have HE := hid h
    by_cases k : u.valid = true
    · have HF := hid k
      have HV : Hid (t.forms = true ∧ u.forms = true) := hid ⟨Fm.valid_forms h, Fm.valid_forms k⟩
      have HS : Hid (Fm.alpha t u [] [] = Fm.alphaR t u) := by rw [Hid, Fm.alphaR, h, k]; rfl
      obtain ⟨rfl, rfl, ⟨a, cap, rfl⟩, rfl, a2, cap2, rfl⟩ := Fm.at_form hT
      obtain ⟨rfl, rfl, ⟨a', cap', rfl⟩, rfl, a2', cap2', rfl⟩ := Fm.at_form hU
      have hW : Below w.heap.size w ((w.alloc (.cells #[.int .i64 t.op, .string t.atom.name, .slice a t.atom.args.length cap, .string t.v, .slice a2 t.parts.length cap2] 36)).alloc (.cells #[.int .i64 u.op, .string u.atom.name, .slice a' u.atom.args.length cap', .string u.v, .slice a2' u.parts.length cap2'] 36)) := ((Below.refl _ _).alloc (Nat.le_refl _) _).alloc (by simp) _
      have bT : Box ((w.alloc (.cells #[.int .i64 t.op, .string t.atom.name, .slice a t.atom.args.length cap, .string t.v, .slice a2 t.parts.length cap2] 36)).alloc (.cells #[.int .i64 u.op, .string u.atom.name, .slice a' u.atom.args.length cap', .string u.v, .slice a2' u.parts.length cap2'] 36)) w.heap.size [.int .i64 t.op, .string t.atom.name, .slice a t.atom.args.length cap, .string t.v, .slice a2 t.parts.length cap2] := (Box.new w _ _).alloc _
      have bU : Box ((w.alloc (.cells #[.int .i64 t.op, .string t.atom.name, .slice a t.atom.args.length cap, .string t.v, .slice a2 t.parts.length cap2] 36)).alloc (.cells #[.int .i64 u.op, .string u.atom.name, .slice a' u.atom.args.length cap', .string u.v, .slice a2' u.parts.length cap2'] 36)) (w.heap.size + 1) [.int .i64 u.op, .string u.atom.name, .slice a' u.atom.args.length cap', .string u.v, .slice a2' u.parts.length cap2'] := by
        have := Box.new (w.alloc (.cells #[.int .i64 t.op, .string t.atom.name, .slice a t.atom.args.length cap, .string t.v, .slice a2 t.parts.length cap2] 36)) [.int .i64 u.op, .string u.atom.name, .slice a' u.atom.args.length cap', .string u.v, .slice a2' u.parts.length cap2'] 36
        simpa only [World.size_alloc] using this
      replace hT := Fm.at_keep (Keeps.all hW) hT
      replace hU := Fm.at_keep (Keeps.all hW) hU
      go_enter Try.func10, Try.ntmps10
      go_wp2_with fail
      generalize ((w.alloc (.cells #[.int .i64 t.op, .string t.atom.name, .slice a t.atom.args.length cap, .string t.v, .slice a2 t.parts.length cap2] 36)).alloc (.cells #[.int .i64 u.op, .string u.atom.name, .slice a' u.atom.args.length cap', .string u.v, .slice a2' u.parts.length cap2'] 36)) = w0 at *
      refine (impl_IsValidFormula hT hbt).mono ?_
      rintro e w1 ⟨_, rfl, hb, rfl⟩
      replace hW := hW.trans (hb.mono hW.size)
      replace bT := bT.keep hb
      replace bU := bU.keep hb
      replace hT := Fm.at_keep (Keeps.all hb) hT
      replace hU := Fm.at_keep (Keeps.all hb) hU
      clear hb
      rw [h]
      have eT0 := bT.c0
      have eT1 := bT.c1
      have eT2 := bT.c2
      have eT3 := bT.c3
      have eT4 := bT.c4
      have eU0 := bU.c0
      have eU1 := bU.c1
      have eU2 := bU.c2
      have eU3 := bU.c3
      have eU4 := bU.c4
      have lT := bT.lt
      have lU := bU.lt
      go_wp2_with fail
      clear eT0 eT1 eT2 eT3 eT4 eU0 eU1 eU2 eU3 eU4 lT lU
      clear h
      refine (impl_IsValidFormula hU hbu).mono ?_
      rintro e w1 ⟨_, rfl, hb, rfl⟩
      replace hW := hW.trans (hb.mono hW.size)
      replace bT := bT.keep hb
      replace bU := bU.keep hb
      replace hT := Fm.at_keep (Keeps.all hb) hT
      replace hU := Fm.at_keep (Keeps.all hb) hU
      clear hb
      rw [k]
      have eT0 := bT.c0
      have eT1 := bT.c1
      have eT2 := bT.c2
      have eT3 := bT.c3
      have eT4 := bT.c4
      have eU0 := bU.c0
      have eU1 := bU.c1
      have eU2 := bU.c2
      have eU3 := bU.c3
      have eU4 := bU.c4
      have lT := bT.lt
      have lU := bU.lt
      go_wp2_with fail
      clear eT0 eT1 eT2 eT3 eT4 eU0 eU1 eU2 eU3 eU4 lT lU
      clear k
      refine (alpha_any t u [] [] S _ _ _ _ _ _ _ _ _ _ _ _ _ hT hU rd_nil0 rd_nil0 (.inl rfl) (.inl rfl) HV.out.1 HV.out.2 hbt hbu (by simp; omega) (by simp; omega)).mono ?_
      rintro e w1 ⟨_, rfl, hb, rfl⟩
      replace hW := hW.trans (hb.mono hW.size)
      replace bT := bT.keep hb
      replace bU := bU.keep hb
      replace hT := Fm.at_keep (Keeps.all hb) hT
      replace hU := Fm.at_keep (Keeps.all hb) hU
      clear hb
      have eT0 := bT.c0
      have eT1 := bT.c1
      have eT2 := bT.c2
      have eT3 := bT.c3
      have eT4 := bT.c4
      have eU0 := bU.c0
      have eU1 := bU.c1
      have eU2 := bU.c2
      have eU3 := bU.c3
      have eU4 := bU.c4
      have lT := bT.lt
      have lU := bU.lt
      go_wp2_with fail
      clear eT0 eT1 eT2 eT3 eT4 eU0 eU1 eU2 eU3 eU4 lT lU
      go_ret2
      exact Gives.mk (by rw [HE.out, HF.out, ← HS.out]; rfl) hW
    · replace k : u.valid = false := by simpa using k
      have HF := hid k
      have HS : Hid (Fm.alphaR t u = false) := by rw [Hid, Fm.alphaR, h, k]; rfl
      obtain ⟨rfl, rfl, ⟨a, cap, rfl⟩, rfl, a2, cap2, rfl⟩ := Fm.at_form hT
      obtain ⟨rfl, rfl, ⟨a', cap', rfl⟩, rfl, a2', cap2', rfl⟩ := Fm.at_form hU
      have hW : Below w.heap.size w ((w.alloc (.cells #[.int .i64 t.op, .string t.atom.name, .slice a t.atom.args.length cap, .string t.v, .slice a2 t.parts.length cap2] 36)).alloc (.cells #[.int .i64 u.op, .string u.atom.name, .slice a' u.atom.args.length cap', .string u.v, .slice a2' u.parts.length cap2'] 36)) := ((Below.refl _ _).alloc (Nat.le_refl _) _).alloc (by simp) _
      have bT : Box ((w.alloc (.cells #[.int .i64 t.op, .string t.atom.name, .slice a t.atom.args.length cap, .string t.v, .slice a2 t.parts.length cap2] 36)).alloc (.cells #[.int .i64 u.op, .string u.atom.name, .slice a' u.atom.args.length cap', .string u.v, .slice a2' u.parts.length cap2'] 36)) w.heap.size [.int .i64 t.op, .string t.atom.name, .slice a t.atom.args.length cap, .string t.v, .slice a2 t.parts.length cap2] := (Box.new w _ _).alloc _
      have bU : Box ((w.alloc (.cells #[.int .i64 t.op, .string t.atom.name, .slice a t.atom.args.length cap, .string t.v, .slice a2 t.parts.length cap2] 36)).alloc (.cells #[.int .i64 u.op, .string u.atom.name, .slice a' u.atom.args.length cap', .string u.v, .slice a2' u.parts.length cap2'] 36)) (w.heap.size + 1) [.int .i64 u.op, .string u.atom.name, .slice a' u.atom.args.length cap', .string u.v, .slice a2' u.parts.length cap2'] := by
        have := Box.new (w.alloc (.cells #[.int .i64 t.op, .string t.atom.name, .slice a t.atom.args.length cap, .string t.v, .slice a2 t.parts.length cap2] 36)) [.int .i64 u.op, .string u.atom.name, .slice a' u.atom.args.length cap', .string u.v, .slice a2' u.parts.length cap2'] 36
        simpa only [World.size_alloc] using this
      replace hT := Fm.at_keep (Keeps.all hW) hT
      replace hU := Fm.at_keep (Keeps.all hW) hU
      go_enter Try.func10, Try.ntmps10
      go_wp2_with fail
      generalize ((w.alloc (.cells #[.int .i64 t.op, .string t.atom.name, .slice a t.atom.args.length cap, .string t.v, .slice a2 t.parts.length cap2] 36)).alloc (.cells #[.int .i64 u.op, .string u.atom.name, .slice a' u.atom.args.length cap', .string u.v, .slice a2' u.parts.length cap2'] 36)) = w0 at *
      refine (impl_IsValidFormula hT hbt).mono ?_
      rintro e w1 ⟨_, rfl, hb, rfl⟩
      replace hW := hW.trans (hb.mono hW.size)
      replace bT := bT.keep hb
      replace bU := bU.keep hb
      replace hT := Fm.at_keep (Keeps.all hb) hT
      replace hU := Fm.at_keep (Keeps.all hb) hU
      clear hb
      rw [h]
      have eT0 := bT.c0
      have eT1 := bT.c1
      have eT2 := bT.c2
      have eT3 := bT.c3
      have eT4 := bT.c4
      have eU0 := bU.c0
      have eU1 := bU.c1
      have eU2 := bU.c2
      have eU3 := bU.c3
      have eU4 := bU.c4
      have lT := bT.lt
      have lU := bU.lt
      go_wp2_with fail
      clear eT0 eT1 eT2 eT3 eT4 eU0 eU1 eU2 eU3 eU4 lT lU
      clear h
      refine (impl_IsValidFormula hU hbu).mono ?_
      rintro e w1 ⟨_, rfl, hb, rfl⟩
      replace hW := hW.trans (hb.mono hW.size)
      replace bT := bT.keep hb
      replace bU := bU.keep hb
      replace hT := Fm.at_keep (Keeps.all hb) hT
      replace hU := Fm.at_keep (Keeps.all hb) hU
      clear hb
      rw [k]
      have eT0 := bT.c0
      have eT1 := bT.c1
      have eT2 := bT.c2
      have eT3 := bT.c3
      have eT4 := bT.c4
      have eU0 := bU.c0
      have eU1 := bU.c1
      have eU2 := bU.c2
      have eU3 := bU.c3
      have eU4 := bU.c4
      have lT := bT.lt
      have lU := bU.lt
      go_wp2_with fail
      clear eT0 eT1 eT2 eT3 eT4 eU0 eU1 eU2 eU3 eU4 lT lU
      go_ret2
      exact Gives.mk (by rw [HE.out, HF.out, HS.out]; rfl) hW
  · replace h : t.valid = false := by simpa using h
    have HS : Hid (Fm.alphaR t u = false) := by rw [Hid, Fm.alphaR, h]; rfl
    have HE := hid h
    obtain ⟨rfl, rfl, ⟨a, cap, rfl⟩, rfl, a2, cap2, rfl⟩ := Fm.at_form hT
    obtain ⟨rfl, rfl, ⟨a', cap', rfl⟩, rfl, a2', cap2', rfl⟩ := Fm.at_form hU
    have hW : Below w.heap.size w ((w.alloc (.cells #[.int .i64 t.op, .string t.atom.name, .slice a t.atom.args.length cap, .string t.v, .slice a2 t.parts.length cap2] 36)).alloc (.cells #[.int .i64 u.op, .string u.atom.name, .slice a' u.atom.args.length cap', .string u.v, .slice a2' u.parts.length cap2'] 36)) := ((Below.refl _ _).alloc (Nat.le_refl _) _).alloc (by simp) _
    have bT : Box ((w.alloc (.cells #[.int .i64 t.op, .string t.atom.name, .slice a t.atom.args.length cap, .string t.v, .slice a2 t.parts.length cap2] 36)).alloc (.cells #[.int .i64 u.op, .string u.atom.name, .slice a' u.atom.args.length cap', .string u.v, .slice a2' u.parts.length cap2'] 36)) w.heap.size [.int .i64 t.op, .string t.atom.name, .slice a t.atom.args.length cap, .string t.v, .slice a2 t.parts.length cap2] := (Box.new w _ _).alloc _
    have bU : Box ((w.alloc (.cells #[.int .i64 t.op, .string t.atom.name, .slice a t.atom.args.length cap, .string t.v, .slice a2 t.parts.length cap2] 36)).alloc (.cells #[.int .i64 u.op, .string u.atom.name, .slice a' u.atom.args.length cap', .string u.v, .slice a2' u.parts.length cap2'] 36)) (w.heap.size + 1) [.int .i64 u.op, .string u.atom.name, .slice a' u.atom.args.length cap', .string u.v, .slice a2' u.parts.length cap2'] := by
      have := Box.new (w.alloc (.cells #[.int .i64 t.op, .string t.atom.name, .slice a t.atom.args.length cap, .string t.v, .slice a2 t.parts.length cap2] 36)) [.int .i64 u.op, .string u.atom.name, .slice a' u.atom.args.length cap', .string u.v, .slice a2' u.parts.length cap2'] 36
      simpa only [World.size_alloc] using this
    replace hT := Fm.at_keep (Keeps.all hW) hT
    replace hU := Fm.at_keep (Keeps.all hW) hU
    go_enter Try.func10, Try.ntmps10
    go_wp2_with fail
    generalize ((w.alloc (.cells #[.int .i64 t.op, .string t.atom.name, .slice a t.atom.args.length cap, .string t.v, .slice a2 t.parts.length cap2] 36)).alloc (.cells #[.int .i64 u.op, .string u.atom.name, .slice a' u.atom.args.length cap', .string u.v, .slice a2' u.parts.length cap2'] 36)) = w0 at *
    refine (impl_IsValidFormula hT hbt).mono ?_
    rintro e w1 ⟨_, rfl, hb, rfl⟩
    replace hW := hW.trans (hb.mono hW.size)
    replace bT := bT.keep hb
    replace bU := bU.keep hb
    replace hT := Fm.at_keep (Keeps.all hb) hT
    replace hU := Fm.at_keep (Keeps.all hb) hU
    clear hb
    rw [h]
    have eT0 := bT.c0
    have eT1 := bT.c1
    have eT2 := bT.c2
    have eT3 := bT.c3
    have eT4 := bT.c4
    have eU0 := bU.c0
    have eU1 := bU.c1
    have eU2 := bU.c2
    have eU3 := bU.c3
    have eU4 := bU.c4
    have lT := bT.lt
    have lU := bU.lt
    go_wp2_with fail
    clear eT0 eT1 eT2 eT3 eT4 eU0 eU1 eU2 eU3 eU4 lT lU
    go_ret2
    exact Gives.mk (by rw [HE.out, HS.out]; rfl) hW
end Go.Proofs.Ythpookgpmnbilaa
