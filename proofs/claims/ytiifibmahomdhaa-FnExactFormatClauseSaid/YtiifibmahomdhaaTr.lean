/- FormatLiteral. -/
import Derived.Test.YtiifibmahomdhaaTq
namespace Go.Proofs.Ytiifibmahomdhaa
set_option maxRecDepth 100000
open Go.RowKit

def Lit.textR (t : Lit) : ByteArray := if t.atom.atom = true then bs t.text else ⟨#[]⟩
set_option maxHeartbeats 1000000 in
theorem spec_FormatLiteral {t : Lit} {S : Nat → Prop} {c0 c1 c2 : Value} {w : World} (hT : Lit.at S w c0 c1 c2 t) (hbk : t.bulk ≤ 1048576) : Calls Try.prog 21 #[.agg #[c0, c1, c2]] w (Gives w (.tuple #[.string t.textR, .bool t.atom.atom])) := by
  have hbA : t.atom.bulk ≤ 1048576 := by rw [Lit.bulk] at hbk; omega
  by_cases h : t.atom.atom = true
  · have HS : Hid (bs t.text = t.textR) := by unfold Hid Lit.textR; rw [if_pos h]
    have HE := hid h
    have hsd := Tm.atom_sides h
    obtain ⟨rfl, rfl, a, cap, rfl⟩ := Lit.at_form hT
    have hW : Below w.heap.size w (w.alloc (.cells #[.bool t.pos, .string t.atom.name, .slice a t.atom.args.length cap] 39)) := (Below.refl _ _).alloc (Nat.le_refl _) _
    have bT : Box (w.alloc (.cells #[.bool t.pos, .string t.atom.name, .slice a t.atom.args.length cap] 39)) w.heap.size [.bool t.pos, .string t.atom.name, .slice a t.atom.args.length cap] := Box.new w _ _
    replace hT := Lit.at_keep (Keeps.all hW) hT
    go_enter Try.func21, Try.ntmps21
    go_wp2_with fail
    generalize (w.alloc (.cells #[.bool t.pos, .string t.atom.name, .slice a t.atom.args.length cap] 39)) = w0 at *
    refine (l2Atom_any t.atom (Lit.at_atom hT) hbA).mono ?_
    rintro e w1 ⟨_, rfl, hb, rfl⟩
    replace hW := hW.trans (hb.mono hW.size)
    replace bT := bT.keep hb
    replace hT := Lit.at_keep (Keeps.all hb) hT
    clear hb
    rw [h]
    have eT0 := bT.c0
    have eT1 := bT.c1
    have eT2 := bT.c2
    have lT := bT.lt
    go_wp2_with fail
    clear eT0 eT1 eT2 lT
    clear h
    refine (l3Literal_any hT hbA hsd).mono ?_
    rintro e w1 ⟨_, rfl, hb, rfl⟩
    replace hW := hW.trans (hb.mono hW.size)
    replace bT := bT.keep hb
    replace hT := Lit.at_keep (Keeps.all hb) hT
    clear hb
    have eT0 := bT.c0
    have eT1 := bT.c1
    have eT2 := bT.c2
    have lT := bT.lt
    go_wp2_with fail
    clear eT0 eT1 eT2 lT
    go_ret2
    exact Gives.mk (by rw [HE.out, ← HS.out]; rfl) hW
  · replace h : t.atom.atom = false := by simpa using h
    have HS : Hid (t.textR = ⟨#[]⟩) := by unfold Hid Lit.textR; rw [h]; rfl
    have HE := hid h
    obtain ⟨rfl, rfl, a, cap, rfl⟩ := Lit.at_form hT
    have hW : Below w.heap.size w (w.alloc (.cells #[.bool t.pos, .string t.atom.name, .slice a t.atom.args.length cap] 39)) := (Below.refl _ _).alloc (Nat.le_refl _) _
    have bT : Box (w.alloc (.cells #[.bool t.pos, .string t.atom.name, .slice a t.atom.args.length cap] 39)) w.heap.size [.bool t.pos, .string t.atom.name, .slice a t.atom.args.length cap] := Box.new w _ _
    replace hT := Lit.at_keep (Keeps.all hW) hT
    go_enter Try.func21, Try.ntmps21
    go_wp2_with fail
    generalize (w.alloc (.cells #[.bool t.pos, .string t.atom.name, .slice a t.atom.args.length cap] 39)) = w0 at *
    refine (l2Atom_any t.atom (Lit.at_atom hT) hbA).mono ?_
    rintro e w1 ⟨_, rfl, hb, rfl⟩
    replace hW := hW.trans (hb.mono hW.size)
    replace bT := bT.keep hb
    replace hT := Lit.at_keep (Keeps.all hb) hT
    clear hb
    rw [h]
    have eT0 := bT.c0
    have eT1 := bT.c1
    have eT2 := bT.c2
    have lT := bT.lt
    go_wp2_with fail
    clear eT0 eT1 eT2 lT
    go_ret2
    exact Gives.mk (by rw [HE.out, HS.out]; rfl) hW
set_option maxHeartbeats 1000000 in
theorem impl_FormatLiteral {t : Lit} {S : Nat → Prop} {c0 c1 c2 : Value} {w : World} (hT : Lit.at S w c0 c1 c2 t) (hbk : t.bulk ≤ 1048576) : Calls Try.prog 23 #[.agg #[c0, c1, c2]] w (Gives w (.tuple #[.string t.textR, .bool t.atom.atom])) := by
  have hbA : t.atom.bulk ≤ 1048576 := by rw [Lit.bulk] at hbk; omega
  by_cases h : t.atom.atom = true
  · have HS : Hid (bs t.text = t.textR) := by unfold Hid Lit.textR; rw [if_pos h]
    have HE := hid h
    have hsd := Tm.atom_sides h
    obtain ⟨rfl, rfl, a, cap, rfl⟩ := Lit.at_form hT
    have hW : Below w.heap.size w (w.alloc (.cells #[.bool t.pos, .string t.atom.name, .slice a t.atom.args.length cap] 39)) := (Below.refl _ _).alloc (Nat.le_refl _) _
    have bT : Box (w.alloc (.cells #[.bool t.pos, .string t.atom.name, .slice a t.atom.args.length cap] 39)) w.heap.size [.bool t.pos, .string t.atom.name, .slice a t.atom.args.length cap] := Box.new w _ _
    replace hT := Lit.at_keep (Keeps.all hW) hT
    go_enter Try.func23, Try.ntmps23
    go_wp2_with fail
    generalize (w.alloc (.cells #[.bool t.pos, .string t.atom.name, .slice a t.atom.args.length cap] 39)) = w0 at *
    refine (impl_IsValidLiteral hT hbk).mono ?_
    rintro e w1 ⟨_, rfl, hb, rfl⟩
    replace hW := hW.trans (hb.mono hW.size)
    replace bT := bT.keep hb
    replace hT := Lit.at_keep (Keeps.all hb) hT
    clear hb
    rw [h]
    have eT0 := bT.c0
    have eT1 := bT.c1
    have eT2 := bT.c2
    have lT := bT.lt
    go_wp2_with fail
    clear eT0 eT1 eT2 lT
    clear h
    refine (formatLiteral_any hT hbA hsd).mono ?_
    rintro e w1 ⟨_, rfl, hb, rfl⟩
    replace hW := hW.trans (hb.mono hW.size)
    replace bT := bT.keep hb
    replace hT := Lit.at_keep (Keeps.all hb) hT
    clear hb
    have eT0 := bT.c0
    have eT1 := bT.c1
    have eT2 := bT.c2
    have lT := bT.lt
    go_wp2_with fail
    clear eT0 eT1 eT2 lT
    go_ret2
    exact Gives.mk (by rw [HE.out, ← HS.out]; rfl) hW
  · replace h : t.atom.atom = false := by simpa using h
    have HS : Hid (t.textR = ⟨#[]⟩) := by unfold Hid Lit.textR; rw [h]; rfl
    have HE := hid h
    obtain ⟨rfl, rfl, a, cap, rfl⟩ := Lit.at_form hT
    have hW : Below w.heap.size w (w.alloc (.cells #[.bool t.pos, .string t.atom.name, .slice a t.atom.args.length cap] 39)) := (Below.refl _ _).alloc (Nat.le_refl _) _
    have bT : Box (w.alloc (.cells #[.bool t.pos, .string t.atom.name, .slice a t.atom.args.length cap] 39)) w.heap.size [.bool t.pos, .string t.atom.name, .slice a t.atom.args.length cap] := Box.new w _ _
    replace hT := Lit.at_keep (Keeps.all hW) hT
    go_enter Try.func23, Try.ntmps23
    go_wp2_with fail
    generalize (w.alloc (.cells #[.bool t.pos, .string t.atom.name, .slice a t.atom.args.length cap] 39)) = w0 at *
    refine (impl_IsValidLiteral hT hbk).mono ?_
    rintro e w1 ⟨_, rfl, hb, rfl⟩
    replace hW := hW.trans (hb.mono hW.size)
    replace bT := bT.keep hb
    replace hT := Lit.at_keep (Keeps.all hb) hT
    clear hb
    rw [h]
    have eT0 := bT.c0
    have eT1 := bT.c1
    have eT2 := bT.c2
    have lT := bT.lt
    go_wp2_with fail
    clear eT0 eT1 eT2 lT
    go_ret2
    exact Gives.mk (by rw [HE.out, HS.out]; rfl) hW
end Go.Proofs.Ytiifibmahomdhaa
