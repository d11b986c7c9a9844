/- FormatTerm. -/
import Derived.Test.YtiifibmahomdhaaTz
namespace Go.Proofs.Ytiifibmahomdhaa
set_option maxRecDepth 100000
open Go.RowKit

theorem Tm.atom_sides {t : Tm} (h : t.atom = true) : t.sides := by
  rw [Tm.atom_eq] at h
  by_cases hn : t.name = eqSign
  · rw [if_pos hn] at h
    simp only [Bool.and_eq_true, decide_eq_true_eq] at h
    obtain ⟨n, ts⟩ := t
    rw [Tm.sides, Tm.sidesAll_iff]
    exact ⟨fun _ => h.1.1, fun a ha => Tm.names_sides a ((Tm.namesAll_iff ts).1 h.2 a ha)⟩
  · rw [if_neg hn, Bool.and_eq_true, Tm.valid, Bool.and_eq_true] at h
    exact Tm.names_sides t h.2.2
theorem Tm.valid_sides {t : Tm} (h : t.valid = true) : t.sides := by
  rw [Tm.valid, Bool.and_eq_true] at h
  exact Tm.names_sides t h.2
theorem Tm.expr_sides {t : Tm} (h : t.expr = true) : t.sides := by
  rw [Tm.expr, Bool.or_eq_true] at h
  rcases h with h | h
  · exact Tm.valid_sides h
  · exact Tm.atom_sides h
def Tm.textR (t : Tm) : ByteArray := if t.expr then bs t.text else ⟨#[]⟩

set_option maxHeartbeats 1000000 in
theorem spec_FormatTerm {t : Tm} {S : Nat → Prop} {c0 c1 : Value} {w : World} (hT : Tm.at S w c0 c1 t) (hbk : t.bulk ≤ 1048576) : Calls Try.prog 16 #[.agg #[c0, c1]] w (Gives w (.tuple #[.string t.textR, .bool t.expr])) := by
  obtain ⟨rfl, hn, a, cap, rfl⟩ := Tm.at_form hT
  have hW : Below w.heap.size w (w.alloc (.cells #[.string t.name, .slice a t.args.length cap] 30)) := (Below.refl _ _).alloc (Nat.le_refl _) _
  have bT : Box (w.alloc (.cells #[.string t.name, .slice a t.args.length cap] 30)) w.heap.size [.string t.name, .slice a t.args.length cap] := Box.new w _ _
  replace hT := Tm.at_keep (Keeps.all hW) hT
  go_enter Try.func16, Try.ntmps16
  go_wp2_with fail
  generalize (w.alloc (.cells #[.string t.name, .slice a t.args.length cap] 30)) = w0 at *
  by_cases h : t.expr = true
  · have HS : Hid (bs t.text = t.textR) := by rw [Hid, Tm.textR, if_pos h]
    have hsd := Tm.expr_sides h
    have HE := hid h
    refine (l2Any_any t hT hbk).mono ?_
    rintro e w1 ⟨_, rfl, hb, rfl⟩
    replace hW := hW.trans (hb.mono hW.size)
    replace bT := bT.keep hb
    replace hT := Tm.at_keep (Keeps.all hb) hT
    clear hb
    rw [h]
    have eT0 := bT.c0
    have eT1 := bT.c1
    have lT := bT.lt
    go_wp2_with fail
    clear eT0 eT1 lT
    clear h
    refine (l3Term_any t hT hbk hsd).mono ?_
    rintro e w1 ⟨_, rfl, hb, rfl⟩
    replace hW := hW.trans (hb.mono hW.size)
    replace bT := bT.keep hb
    replace hT := Tm.at_keep (Keeps.all hb) hT
    clear hb
    have eT0 := bT.c0
    have eT1 := bT.c1
    have lT := bT.lt
    go_wp2_with fail
    clear eT0 eT1 lT
    go_ret2
    exact Gives.mk (by rw [HE.out, ← HS.out]; rfl) hW
  · replace h : t.expr = false := by simpa using h
    have HS : Hid (t.textR = ⟨#[]⟩) := by simp [Hid, Tm.textR, h]
    have HE := hid h
    refine (l2Any_any t hT hbk).mono ?_
    rintro e w1 ⟨_, rfl, hb, rfl⟩
    replace hW := hW.trans (hb.mono hW.size)
    replace bT := bT.keep hb
    replace hT := Tm.at_keep (Keeps.all hb) hT
    clear hb
    rw [h]
    have eT0 := bT.c0
    have eT1 := bT.c1
    have lT := bT.lt
    go_wp2_with fail
    clear eT0 eT1 lT
    go_ret2
    exact Gives.mk (by rw [HE.out, HS.out]; rfl) hW
set_option maxHeartbeats 1000000 in
theorem impl_FormatTerm {t : Tm} {S : Nat → Prop} {c0 c1 : Value} {w : World} (hT : Tm.at S w c0 c1 t) (hbk : t.bulk ≤ 1048576) : Calls Try.prog 18 #[.agg #[c0, c1]] w (Gives w (.tuple #[.string t.textR, .bool t.expr])) := by
  obtain ⟨rfl, hn, a, cap, rfl⟩ := Tm.at_form hT
  have hW : Below w.heap.size w (w.alloc (.cells #[.string t.name, .slice a t.args.length cap] 30)) := (Below.refl _ _).alloc (Nat.le_refl _) _
  have bT : Box (w.alloc (.cells #[.string t.name, .slice a t.args.length cap] 30)) w.heap.size [.string t.name, .slice a t.args.length cap] := Box.new w _ _
  replace hT := Tm.at_keep (Keeps.all hW) hT
  go_enter Try.func18, Try.ntmps18
  go_wp2_with fail
  generalize (w.alloc (.cells #[.string t.name, .slice a t.args.length cap] 30)) = w0 at *
  by_cases h : t.expr = true
  · have HS : Hid (bs t.text = t.textR) := by rw [Hid, Tm.textR, if_pos h]
    have hsd := Tm.expr_sides h
    have HE := hid h
    refine (isExpression_any t hT hbk).mono ?_
    rintro e w1 ⟨_, rfl, hb, rfl⟩
    replace hW := hW.trans (hb.mono hW.size)
    replace bT := bT.keep hb
    replace hT := Tm.at_keep (Keeps.all hb) hT
    clear hb
    rw [h]
    have eT0 := bT.c0
    have eT1 := bT.c1
    have lT := bT.lt
    go_wp2_with fail
    clear eT0 eT1 lT
    clear h
    refine (formatTerm_any t hT hbk hsd).mono ?_
    rintro e w1 ⟨_, rfl, hb, rfl⟩
    replace hW := hW.trans (hb.mono hW.size)
    replace bT := bT.keep hb
    replace hT := Tm.at_keep (Keeps.all hb) hT
    clear hb
    have eT0 := bT.c0
    have eT1 := bT.c1
    have lT := bT.lt
    go_wp2_with fail
    clear eT0 eT1 lT
    go_ret2
    exact Gives.mk (by rw [HE.out, ← HS.out]; rfl) hW
  · replace h : t.expr = false := by simpa using h
    have HS : Hid (t.textR = ⟨#[]⟩) := by simp [Hid, Tm.textR, h]
    have HE := hid h
    refine (isExpression_any t hT hbk).mono ?_
    rintro e w1 ⟨_, rfl, hb, rfl⟩
    replace hW := hW.trans (hb.mono hW.size)
    replace bT := bT.keep hb
    replace hT := Tm.at_keep (Keeps.all hb) hT
    clear hb
    rw [h]
    have eT0 := bT.c0
    have eT1 := bT.c1
    have lT := bT.lt
    go_wp2_with fail
    clear eT0 eT1 lT
    go_ret2
    exact Gives.mk (by rw [HE.out, HS.out]; rfl) hW
end Go.Proofs.Ytiifibmahomdhaa
