/- The free variables of a formula: the reference's. -/
import Derived.Test.YtominpdaipaioaaFw
namespace Go.Proofs.Ytominpdaipaioaa
set_option maxRecDepth 100000
open Go.RowKit

set_option maxHeartbeats 2000000 in
theorem l8Free_any (t : Fm) {S : Nat → Prop} {c0 c1 c2 c3 c4 : Value} {w : World} (ht : Fm.at S w c0 c1 c2 c3 c4 t) (hbk : t.bulk ≤ 1048576) (hs40 : t.size ≤ 40) : Calls Try.prog 63 #[.agg #[c0, c1, c2, c3, c4]] w (Yields w fun u w' => Lst w' u t.frees) := by
  obtain ⟨rfl, rfl, ⟨ta, tc, rfl⟩, rfl, tA, tC, rfl⟩ := Fm.at_form ht
  have hW : Below w.heap.size w (w.alloc (.cells #[.int .i64 t.op, .string t.atom.name, .slice ta t.atom.args.length tc, .string t.v, .slice tA t.parts.length tC] 64)) := (Below.refl _ _).alloc (Nat.le_refl _) _
  have bt : Box (w.alloc (.cells #[.int .i64 t.op, .string t.atom.name, .slice ta t.atom.args.length tc, .string t.v, .slice tA t.parts.length tC] 64)) (w.heap.size) [.int .i64 t.op, .string t.atom.name, .slice ta t.atom.args.length tc, .string t.v, .slice tA t.parts.length tC] := by
    have := (Box.new w [.int .i64 t.op, .string t.atom.name, .slice ta t.atom.args.length tc, .string t.v, .slice tA t.parts.length tC] 64)
    simpa only [World.size_alloc] using this
  replace ht := Fm.at_keep (Keeps.all hW) ht
  have et0 := bt.c0
  have et1 := bt.c1
  have et2 := bt.c2
  have et3 := bt.c3
  have et4 := bt.c4
  have lt := bt.lt
  go_enter Try.func63, Try.ntmps63
  go_wp2_with fail
  clear et0 et1 et2 et3 et4 lt
  have Hw0 : Hid ((w.alloc (.cells #[.int .i64 t.op, .string t.atom.name, .slice ta t.atom.args.length tc, .string t.v, .slice tA t.parts.length tC] 64)).heap.size = w.heap.size + 1) := by simp [Hid]
  generalize (w.alloc (.cells #[.int .i64 t.op, .string t.atom.name, .slice ta t.atom.args.length tc, .string t.v, .slice tA t.parts.length tC] 64)) = w0 at *
  have hA : Below w0.heap.size w0 (w0.alloc (.cells #[] 9)) := (Below.refl _ _).alloc (Nat.le_refl _) _
  have hA2 : Below (w0.alloc (.cells #[] 9)).heap.size (w0.alloc (.cells #[] 9)) ((w0.alloc (.cells #[] 9)).alloc (.cells #[] 9)) := (Below.refl _ _).alloc (Nat.le_refl _) _
  have hz0 := hW.size
  have h01 := hA.trans (hA2.mono hA.size)
  have hL1 := (Lst.made w0).keep hA2
  rw [Hw0.out] at hL1
  have hL2 := Lst.made (w0.alloc (.cells #[] 9))
  rw [World.size_alloc, Hw0.out] at hL2
  refine (intoIs_any t [] [] _ _ _ _ _ _ _ _ _ hL1 hL2 (Fm.at_keep (Keeps.all h01) ht) hbk (by simp; omega) (by simp; omega)).mono ?_
  rintro e w1 ⟨u, rfl, hb, hL⟩
  have hbe := (hW.trans (h01.mono hz0)).trans (hb.mono (Nat.le_trans hz0 h01.size))
  go_wp2_with fail
  go_ret
  exact ⟨_, rfl, hbe, hL⟩
set_option maxHeartbeats 2000000 in
theorem spec_FreeVariables {t : Fm} {S : Nat → Prop} {c0 c1 c2 c3 c4 : Value} {w : World} (ht : Fm.at S w c0 c1 c2 c3 c4 t) (hbt : t.bulk ≤ 1048576) : Calls Try.prog 28 #[.agg #[c0, c1, c2, c3, c4]] w (RdD id (slOf strE (fvR t)) t.valid w) := by
  by_cases h1 : t.valid = true
  · have HR : Hid (fvR t = t.frees) := by rw [Hid, fvR, if_pos h1]
    have HE := hid h1
    have hsz := Fm.valid_size h1
    clear h1
    rw [HR.out, HE.out]
    obtain ⟨rfl, rfl, ⟨ta, tc, rfl⟩, rfl, tA, tC, rfl⟩ := Fm.at_form ht
    have hW : Below w.heap.size w (w.alloc (.cells #[.int .i64 t.op, .string t.atom.name, .slice ta t.atom.args.length tc, .string t.v, .slice tA t.parts.length tC] 64)) := (Below.refl _ _).alloc (Nat.le_refl _) _
    have bt : Box (w.alloc (.cells #[.int .i64 t.op, .string t.atom.name, .slice ta t.atom.args.length tc, .string t.v, .slice tA t.parts.length tC] 64)) (w.heap.size) [.int .i64 t.op, .string t.atom.name, .slice ta t.atom.args.length tc, .string t.v, .slice tA t.parts.length tC] := by
      have := (Box.new w [.int .i64 t.op, .string t.atom.name, .slice ta t.atom.args.length tc, .string t.v, .slice tA t.parts.length tC] 64)
      simpa only [World.size_alloc] using this
    replace ht := Fm.at_keep (Keeps.all hW) ht
    have et0 := bt.c0
    have et1 := bt.c1
    have et2 := bt.c2
    have et3 := bt.c3
    have et4 := bt.c4
    have lt := bt.lt
    go_enter Try.func28, Try.ntmps28
    go_wp2_with fail
    clear et0 et1 et2 et3 et4 lt
    have Hw0 : Hid ((w.alloc (.cells #[.int .i64 t.op, .string t.atom.name, .slice ta t.atom.args.length tc, .string t.v, .slice tA t.parts.length tC] 64)).heap.size = w.heap.size + 1) := by simp [Hid]
    generalize (w.alloc (.cells #[.int .i64 t.op, .string t.atom.name, .slice ta t.atom.args.length tc, .string t.v, .slice tA t.parts.length tC] 64)) = w0 at *
    refine (l8Good_any t ht hbt).mono ?_
    rintro e w1 ⟨_, rfl, hb, rfl⟩
    replace hW := hW.trans (hb.mono hW.size)
    replace bt := bt.keep hb
    replace ht := Fm.at_keep (Keeps.all hb) ht
    clear hb
    rw [HE.out]
    have et0 := bt.c0
    have et1 := bt.c1
    have et2 := bt.c2
    have et3 := bt.c3
    have et4 := bt.c4
    have lt := bt.lt
    go_wp2_with fail
    clear et0 et1 et2 et3 et4 lt
    refine (l8Free_any t ht hbt hsz).mono ?_
    rintro e w2 ⟨v, rfl, hb, hL⟩
    have hbe := hW.trans (hb.mono hW.size)
    go_wp2_with fail
    go_ret2
    exact ⟨v, rfl, hL.rd, hbe⟩
  · have HE := hid (Bool.eq_false_iff.2 h1)
    have HR : Hid (fvR t = []) := by rw [Hid, fvR, if_neg h1]
    clear h1
    rw [HR.out, HE.out]
    obtain ⟨rfl, rfl, ⟨ta, tc, rfl⟩, rfl, tA, tC, rfl⟩ := Fm.at_form ht
    have hW : Below w.heap.size w (w.alloc (.cells #[.int .i64 t.op, .string t.atom.name, .slice ta t.atom.args.length tc, .string t.v, .slice tA t.parts.length tC] 64)) := (Below.refl _ _).alloc (Nat.le_refl _) _
    have bt : Box (w.alloc (.cells #[.int .i64 t.op, .string t.atom.name, .slice ta t.atom.args.length tc, .string t.v, .slice tA t.parts.length tC] 64)) (w.heap.size) [.int .i64 t.op, .string t.atom.name, .slice ta t.atom.args.length tc, .string t.v, .slice tA t.parts.length tC] := by
      have := (Box.new w [.int .i64 t.op, .string t.atom.name, .slice ta t.atom.args.length tc, .string t.v, .slice tA t.parts.length tC] 64)
      simpa only [World.size_alloc] using this
    replace ht := Fm.at_keep (Keeps.all hW) ht
    have et0 := bt.c0
    have et1 := bt.c1
    have et2 := bt.c2
    have et3 := bt.c3
    have et4 := bt.c4
    have lt := bt.lt
    go_enter Try.func28, Try.ntmps28
    go_wp2_with fail
    clear et0 et1 et2 et3 et4 lt
    have Hw0 : Hid ((w.alloc (.cells #[.int .i64 t.op, .string t.atom.name, .slice ta t.atom.args.length tc, .string t.v, .slice tA t.parts.length tC] 64)).heap.size = w.heap.size + 1) := by simp [Hid]
    generalize (w.alloc (.cells #[.int .i64 t.op, .string t.atom.name, .slice ta t.atom.args.length tc, .string t.v, .slice tA t.parts.length tC] 64)) = w0 at *
    refine (l8Good_any t ht hbt).mono ?_
    rintro e w1 ⟨_, rfl, hb, rfl⟩
    replace hW := hW.trans (hb.mono hW.size)
    replace bt := bt.keep hb
    replace ht := Fm.at_keep (Keeps.all hb) ht
    clear hb
    rw [HE.out]
    have et0 := bt.c0
    have et1 := bt.c1
    have et2 := bt.c2
    have et3 := bt.c3
    have et4 := bt.c4
    have lt := bt.lt
    go_wp2_with fail
    clear et0 et1 et2 et3 et4 lt
    go_ret2
    exact ⟨_, rfl, rd_nilS, hW.alloc hW.size _⟩
end Go.Proofs.Ytominpdaipaioaa
