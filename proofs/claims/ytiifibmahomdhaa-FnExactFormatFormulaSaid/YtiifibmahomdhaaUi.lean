/- FormatFormula. -/
import Derived.Test.YtiifibmahomdhaaUh
namespace Go.Proofs.Ytiifibmahomdhaa
set_option maxRecDepth 100000
open Go.RowKit

def Fm.textOk (t : Fm) : Bool := t.valid && decide (t.text.length ≤ 4000)
def Fm.textR (t : Fm) : ByteArray := if t.textOk = true then bs t.text else ⟨#[]⟩
set_option maxHeartbeats 1000000 in
theorem spec_FormatFormula {t : Fm} {S : Nat → Prop} {c0 c1 c2 c3 c4 : Value} {w : World} (hT : Fm.at S w c0 c1 c2 c3 c4 t) (hbk : t.bulk ≤ 1048576) : Calls Try.prog 31 #[.agg #[c0, c1, c2, c3, c4]] w (Gives w (.tuple #[.string t.textR, .bool t.textOk])) := by
  by_cases h : t.valid = true
  · have hf : t.forms = true := by rw [Fm.valid, Bool.and_eq_true] at h; exact h.2
    have HV := hid h
    by_cases h4 : t.text.length ≤ 4000
    · have HE : Hid (t.textOk = true) := by rw [Hid, Fm.textOk, HV.out]; simpa using h4
      have HS : Hid (bs t.text = t.textR) := by rw [Hid, Fm.textR, HE.out]; rfl
      have g0 : ((bs t.text).size : Int) ≤ 4000 := by rw [bs_size]; omega
      clear h4
      obtain ⟨rfl, rfl, ⟨a, cap, rfl⟩, rfl, a2, cap2, rfl⟩ := Fm.at_form hT
      have hW : Below w.heap.size w (w.alloc (.cells #[.int .i64 t.op, .string t.atom.name, .slice a t.atom.args.length cap, .string t.v, .slice a2 t.parts.length cap2] 61)) := (Below.refl _ _).alloc (Nat.le_refl _) _
      have bT : Box (w.alloc (.cells #[.int .i64 t.op, .string t.atom.name, .slice a t.atom.args.length cap, .string t.v, .slice a2 t.parts.length cap2] 61)) w.heap.size [.int .i64 t.op, .string t.atom.name, .slice a t.atom.args.length cap, .string t.v, .slice a2 t.parts.length cap2] := Box.new w _ _
      replace hT := Fm.at_keep (Keeps.all hW) hT
      go_enter Try.func31, Try.ntmps31
      go_wp2_with fail
      generalize (w.alloc (.cells #[.int .i64 t.op, .string t.atom.name, .slice a t.atom.args.length cap, .string t.v, .slice a2 t.parts.length cap2] 61)) = w0 at *
      refine (l8Good_any t hT hbk).mono ?_
      rintro e w1 ⟨_, rfl, hb, rfl⟩
      replace hW := hW.trans (hb.mono hW.size)
      replace bT := bT.keep hb
      replace hT := Fm.at_keep (Keeps.all hb) hT
      clear hb
      rw [h]
      have eT0 := bT.c0
      have eT1 := bT.c1
      have eT2 := bT.c2
      have eT3 := bT.c3
      have eT4 := bT.c4
      have lT := bT.lt
      go_wp2_with fail
      clear eT0 eT1 eT2 eT3 eT4 lT
      clear h
      refine (l8Text_any t hT hbk hf).mono ?_
      rintro e w1 ⟨_, rfl, hb, rfl⟩
      replace hW := hW.trans (hb.mono hW.size)
      replace bT := bT.keep hb
      replace hT := Fm.at_keep (Keeps.all hb) hT
      clear hb
      have eT0 := bT.c0
      have eT1 := bT.c1
      have eT2 := bT.c2
      have eT3 := bT.c3
      have eT4 := bT.c4
      have lT := bT.lt
      go_wp2_with fail
      clear eT0 eT1 eT2 eT3 eT4 lT
      go_ret2
      exact Gives.mk (by rw [HE.out, ← HS.out]; rfl) hW
    · have HE : Hid (t.textOk = false) := by rw [Hid, Fm.textOk, HV.out]; simp; omega
      have HS : Hid (t.textR = ⟨#[]⟩) := by rw [Hid, Fm.textR, HE.out]; rfl
      have g0 : (4000 : Int) < ((bs t.text).size : Int) := by rw [bs_size]; omega
      clear h4
      obtain ⟨rfl, rfl, ⟨a, cap, rfl⟩, rfl, a2, cap2, rfl⟩ := Fm.at_form hT
      have hW : Below w.heap.size w (w.alloc (.cells #[.int .i64 t.op, .string t.atom.name, .slice a t.atom.args.length cap, .string t.v, .slice a2 t.parts.length cap2] 61)) := (Below.refl _ _).alloc (Nat.le_refl _) _
      have bT : Box (w.alloc (.cells #[.int .i64 t.op, .string t.atom.name, .slice a t.atom.args.length cap, .string t.v, .slice a2 t.parts.length cap2] 61)) w.heap.size [.int .i64 t.op, .string t.atom.name, .slice a t.atom.args.length cap, .string t.v, .slice a2 t.parts.length cap2] := Box.new w _ _
      replace hT := Fm.at_keep (Keeps.all hW) hT
      go_enter Try.func31, Try.ntmps31
      go_wp2_with fail
      generalize (w.alloc (.cells #[.int .i64 t.op, .string t.atom.name, .slice a t.atom.args.length cap, .string t.v, .slice a2 t.parts.length cap2] 61)) = w0 at *
      refine (l8Good_any t hT hbk).mono ?_
      rintro e w1 ⟨_, rfl, hb, rfl⟩
      replace hW := hW.trans (hb.mono hW.size)
      replace bT := bT.keep hb
      replace hT := Fm.at_keep (Keeps.all hb) hT
      clear hb
      rw [h]
      have eT0 := bT.c0
      have eT1 := bT.c1
      have eT2 := bT.c2
      have eT3 := bT.c3
      have eT4 := bT.c4
      have lT := bT.lt
      go_wp2_with fail
      clear eT0 eT1 eT2 eT3 eT4 lT
      clear h
      refine (l8Text_any t hT hbk hf).mono ?_
      rintro e w1 ⟨_, rfl, hb, rfl⟩
      replace hW := hW.trans (hb.mono hW.size)
      replace bT := bT.keep hb
      replace hT := Fm.at_keep (Keeps.all hb) hT
      clear hb
      have eT0 := bT.c0
      have eT1 := bT.c1
      have eT2 := bT.c2
      have eT3 := bT.c3
      have eT4 := bT.c4
      have lT := bT.lt
      go_wp2_with fail
      clear eT0 eT1 eT2 eT3 eT4 lT
      go_ret2
      exact Gives.mk (by rw [HE.out, HS.out]; rfl) hW
  · replace h : t.valid = false := by simpa using h
    have HE : Hid (t.textOk = false) := by rw [Hid, Fm.textOk, h]; rfl
    have HS : Hid (t.textR = ⟨#[]⟩) := by rw [Hid, Fm.textR, HE.out]; rfl
    obtain ⟨rfl, rfl, ⟨a, cap, rfl⟩, rfl, a2, cap2, rfl⟩ := Fm.at_form hT
    have hW : Below w.heap.size w (w.alloc (.cells #[.int .i64 t.op, .string t.atom.name, .slice a t.atom.args.length cap, .string t.v, .slice a2 t.parts.length cap2] 61)) := (Below.refl _ _).alloc (Nat.le_refl _) _
    have bT : Box (w.alloc (.cells #[.int .i64 t.op, .string t.atom.name, .slice a t.atom.args.length cap, .string t.v, .slice a2 t.parts.length cap2] 61)) w.heap.size [.int .i64 t.op, .string t.atom.name, .slice a t.atom.args.length cap, .string t.v, .slice a2 t.parts.length cap2] := Box.new w _ _
    replace hT := Fm.at_keep (Keeps.all hW) hT
    go_enter Try.func31, Try.ntmps31
    go_wp2_with fail
    generalize (w.alloc (.cells #[.int .i64 t.op, .string t.atom.name, .slice a t.atom.args.length cap, .string t.v, .slice a2 t.parts.length cap2] 61)) = w0 at *
    refine (l8Good_any t hT hbk).mono ?_
    rintro e w1 ⟨_, rfl, hb, rfl⟩
    replace hW := hW.trans (hb.mono hW.size)
    replace bT := bT.keep hb
    replace hT := Fm.at_keep (Keeps.all hb) hT
    clear hb
    rw [h]
    have eT0 := bT.c0
    have eT1 := bT.c1
    have eT2 := bT.c2
    have eT3 := bT.c3
    have eT4 := bT.c4
    have lT := bT.lt
    go_wp2_with fail
    clear eT0 eT1 eT2 eT3 eT4 lT
    go_ret2
    exact Gives.mk (by rw [HE.out, HS.out]; rfl) hW
set_option maxHeartbeats 1000000 in
theorem impl_FormatFormula {t : Fm} {S : Nat → Prop} {c0 c1 c2 c3 c4 : Value} {w : World} (hT : Fm.at S w c0 c1 c2 c3 c4 t) (hbk : t.bulk ≤ 1048576) : Calls Try.prog 33 #[.agg #[c0, c1, c2, c3, c4]] w (Gives w (.tuple #[.string t.textR, .bool t.textOk])) := by
  by_cases h : t.valid = true
  · have hf : t.forms = true := by rw [Fm.valid, Bool.and_eq_true] at h; exact h.2
    have HV := hid h
    by_cases h4 : t.text.length ≤ 4000
    · have HE : Hid (t.textOk = true) := by rw [Hid, Fm.textOk, HV.out]; simpa using h4
      have HS : Hid (bs t.text = t.textR) := by rw [Hid, Fm.textR, HE.out]; rfl
      have g0 : ((bs t.text).size : Int) ≤ 4000 := by rw [bs_size]; omega
      clear h4
      obtain ⟨rfl, rfl, ⟨a, cap, rfl⟩, rfl, a2, cap2, rfl⟩ := Fm.at_form hT
      have hW : Below w.heap.size w (w.alloc (.cells #[.int .i64 t.op, .string t.atom.name, .slice a t.atom.args.length cap, .string t.v, .slice a2 t.parts.length cap2] 61)) := (Below.refl _ _).alloc (Nat.le_refl _) _
      have bT : Box (w.alloc (.cells #[.int .i64 t.op, .string t.atom.name, .slice a t.atom.args.length cap, .string t.v, .slice a2 t.parts.length cap2] 61)) w.heap.size [.int .i64 t.op, .string t.atom.name, .slice a t.atom.args.length cap, .string t.v, .slice a2 t.parts.length cap2] := Box.new w _ _
      replace hT := Fm.at_keep (Keeps.all hW) hT
      go_enter Try.func33, Try.ntmps33
      go_wp2_with fail
      generalize (w.alloc (.cells #[.int .i64 t.op, .string t.atom.name, .slice a t.atom.args.length cap, .string t.v, .slice a2 t.parts.length cap2] 61)) = w0 at *
      refine (impl_IsValidFormula hT hbk).mono ?_
      rintro e w1 ⟨_, rfl, hb, rfl⟩
      replace hW := hW.trans (hb.mono hW.size)
      replace bT := bT.keep hb
      replace hT := Fm.at_keep (Keeps.all hb) hT
      clear hb
      rw [h]
      have eT0 := bT.c0
      have eT1 := bT.c1
      have eT2 := bT.c2
      have eT3 := bT.c3
      have eT4 := bT.c4
      have lT := bT.lt
      go_wp2_with fail
      clear eT0 eT1 eT2 eT3 eT4 lT
      clear h
      refine (formatFormula_any t hT hbk hf).mono ?_
      rintro e w1 ⟨_, rfl, hb, rfl⟩
      replace hW := hW.trans (hb.mono hW.size)
      replace bT := bT.keep hb
      replace hT := Fm.at_keep (Keeps.all hb) hT
      clear hb
      have eT0 := bT.c0
      have eT1 := bT.c1
      have eT2 := bT.c2
      have eT3 := bT.c3
      have eT4 := bT.c4
      have lT := bT.lt
      go_wp2_with fail
      clear eT0 eT1 eT2 eT3 eT4 lT
      go_ret2
      exact Gives.mk (by rw [HE.out, ← HS.out]; rfl) hW
    · have HE : Hid (t.textOk = false) := by rw [Hid, Fm.textOk, HV.out]; simp; omega
      have HS : Hid (t.textR = ⟨#[]⟩) := by rw [Hid, Fm.textR, HE.out]; rfl
      have g0 : (4000 : Int) < ((bs t.text).size : Int) := by rw [bs_size]; omega
      clear h4
      obtain ⟨rfl, rfl, ⟨a, cap, rfl⟩, rfl, a2, cap2, rfl⟩ := Fm.at_form hT
      have hW : Below w.heap.size w (w.alloc (.cells #[.int .i64 t.op, .string t.atom.name, .slice a t.atom.args.length cap, .string t.v, .slice a2 t.parts.length cap2] 61)) := (Below.refl _ _).alloc (Nat.le_refl _) _
      have bT : Box (w.alloc (.cells #[.int .i64 t.op, .string t.atom.name, .slice a t.atom.args.length cap, .string t.v, .slice a2 t.parts.length cap2] 61)) w.heap.size [.int .i64 t.op, .string t.atom.name, .slice a t.atom.args.length cap, .string t.v, .slice a2 t.parts.length cap2] := Box.new w _ _
      replace hT := Fm.at_keep (Keeps.all hW) hT
      go_enter Try.func33, Try.ntmps33
      go_wp2_with fail
      generalize (w.alloc (.cells #[.int .i64 t.op, .string t.atom.name, .slice a t.atom.args.length cap, .string t.v, .slice a2 t.parts.length cap2] 61)) = w0 at *
      refine (impl_IsValidFormula hT hbk).mono ?_
      rintro e w1 ⟨_, rfl, hb, rfl⟩
      replace hW := hW.trans (hb.mono hW.size)
      replace bT := bT.keep hb
      replace hT := Fm.at_keep (Keeps.all hb) hT
      clear hb
      rw [h]
      have eT0 := bT.c0
      have eT1 := bT.c1
      have eT2 := bT.c2
      have eT3 := bT.c3
      have eT4 := bT.c4
      have lT := bT.lt
      go_wp2_with fail
      clear eT0 eT1 eT2 eT3 eT4 lT
      clear h
      refine (formatFormula_any t hT hbk hf).mono ?_
      rintro e w1 ⟨_, rfl, hb, rfl⟩
      replace hW := hW.trans (hb.mono hW.size)
      replace bT := bT.keep hb
      replace hT := Fm.at_keep (Keeps.all hb) hT
      clear hb
      have eT0 := bT.c0
      have eT1 := bT.c1
      have eT2 := bT.c2
      have eT3 := bT.c3
      have eT4 := bT.c4
      have lT := bT.lt
      go_wp2_with fail
      clear eT0 eT1 eT2 eT3 eT4 lT
      go_ret2
      exact Gives.mk (by rw [HE.out, HS.out]; rfl) hW
  · replace h : t.valid = false := by simpa using h
    have HE : Hid (t.textOk = false) := by rw [Hid, Fm.textOk, h]; rfl
    have HS : Hid (t.textR = ⟨#[]⟩) := by rw [Hid, Fm.textR, HE.out]; rfl
    obtain ⟨rfl, rfl, ⟨a, cap, rfl⟩, rfl, a2, cap2, rfl⟩ := Fm.at_form hT
    have hW : Below w.heap.size w (w.alloc (.cells #[.int .i64 t.op, .string t.atom.name, .slice a t.atom.args.length cap, .string t.v, .slice a2 t.parts.length cap2] 61)) := (Below.refl _ _).alloc (Nat.le_refl _) _
    have bT : Box (w.alloc (.cells #[.int .i64 t.op, .string t.atom.name, .slice a t.atom.args.length cap, .string t.v, .slice a2 t.parts.length cap2] 61)) w.heap.size [.int .i64 t.op, .string t.atom.name, .slice a t.atom.args.length cap, .string t.v, .slice a2 t.parts.length cap2] := Box.new w _ _
    replace hT := Fm.at_keep (Keeps.all hW) hT
    go_enter Try.func33, Try.ntmps33
    go_wp2_with fail
    generalize (w.alloc (.cells #[.int .i64 t.op, .string t.atom.name, .slice a t.atom.args.length cap, .string t.v, .slice a2 t.parts.length cap2] 61)) = w0 at *
    refine (impl_IsValidFormula hT hbk).mono ?_
    rintro e w1 ⟨_, rfl, hb, rfl⟩
    replace hW := hW.trans (hb.mono hW.size)
    replace bT := bT.keep hb
    replace hT := Fm.at_keep (Keeps.all hb) hT
    clear hb
    rw [h]
    have eT0 := bT.c0
    have eT1 := bT.c1
    have eT2 := bT.c2
    have eT3 := bT.c3
    have eT4 := bT.c4
    have lT := bT.lt
    go_wp2_with fail
    clear eT0 eT1 eT2 eT3 eT4 lT
    go_ret2
    exact Gives.mk (by rw [HE.out, HS.out]; rfl) hW
end Go.Proofs.Ytiifibmahomdhaa
