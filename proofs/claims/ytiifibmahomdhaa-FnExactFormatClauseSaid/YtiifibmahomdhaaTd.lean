/- FormatClause. -/
import Derived.Test.YtiifibmahomdhaaTc
namespace Go.Proofs.Ytiifibmahomdhaa
set_option maxRecDepth 100000
open Go.RowKit

def Cl.textR (t : Cl) : ByteArray := if t.valid = true then bs t.text else ⟨#[]⟩
theorem Cl.valid_atoms {t : Cl} (h : t.valid = true) : ∀ l ∈ t.ls, l.atom.atom = true := by
  intro l hl
  rw [Cl.valid, Bool.and_eq_true, Lit.allOk, List.all_eq_true] at h
  obtain ⟨k, hk, rfl⟩ := List.mem_iff_getElem.1 hl
  exact Lit.okAt_valid hk (h.1 k (List.mem_range.2 hk))
set_option maxHeartbeats 1000000 in
theorem spec_FormatClause {t : Cl} {S : Nat → Prop} {c0 : Value} {w : World} (hT : Cl.at S w c0 t) (hbk : t.bulk ≤ 1048576) : Calls Try.prog 36 #[.agg #[c0]] w (Gives w (.tuple #[.string t.textR, .bool t.valid])) := by
  by_cases h : t.valid = true
  · have HS : Hid (bs t.text = t.textR) := by unfold Hid Cl.textR; rw [if_pos h]
    have HE := hid h
    have hva := Cl.valid_atoms h
    obtain ⟨a, cap, rfl⟩ := Cl.at_form hT
    have hW : Below w.heap.size w (w.alloc (.cells #[.slice a t.ls.length cap] 72)) := (Below.refl _ _).alloc (Nat.le_refl _) _
    have bT : Box (w.alloc (.cells #[.slice a t.ls.length cap] 72)) w.heap.size [.slice a t.ls.length cap] := Box.new w _ _
    replace hT := Cl.at_keep (Keeps.all hW) hT
    go_enter Try.func36, Try.ntmps36
    go_wp2_with fail
    generalize (w.alloc (.cells #[.slice a t.ls.length cap] 72)) = w0 at *
    refine (l7Good_any hT hbk).mono ?_
    rintro e w1 ⟨_, rfl, hb, rfl⟩
    replace hW := hW.trans (hb.mono hW.size)
    replace bT := bT.keep hb
    replace hT := Cl.at_keep (Keeps.all hb) hT
    clear hb
    rw [h]
    have eT0 := bT.c0
    have lT := bT.lt
    go_wp2_with fail
    clear eT0 lT
    clear h
    refine (l3Clause_any hT hbk hva).mono ?_
    rintro e w1 ⟨_, rfl, hb, rfl⟩
    replace hW := hW.trans (hb.mono hW.size)
    replace bT := bT.keep hb
    replace hT := Cl.at_keep (Keeps.all hb) hT
    clear hb
    have eT0 := bT.c0
    have lT := bT.lt
    go_wp2_with fail
    clear eT0 lT
    go_ret2
    exact Gives.mk (by rw [HE.out, ← HS.out]; rfl) hW
  · replace h : t.valid = false := by simpa using h
    have HS : Hid (t.textR = ⟨#[]⟩) := by unfold Hid Cl.textR; rw [h]; rfl
    have HE := hid h
    obtain ⟨a, cap, rfl⟩ := Cl.at_form hT
    have hW : Below w.heap.size w (w.alloc (.cells #[.slice a t.ls.length cap] 72)) := (Below.refl _ _).alloc (Nat.le_refl _) _
    have bT : Box (w.alloc (.cells #[.slice a t.ls.length cap] 72)) w.heap.size [.slice a t.ls.length cap] := Box.new w _ _
    replace hT := Cl.at_keep (Keeps.all hW) hT
    go_enter Try.func36, Try.ntmps36
    go_wp2_with fail
    generalize (w.alloc (.cells #[.slice a t.ls.length cap] 72)) = w0 at *
    refine (l7Good_any hT hbk).mono ?_
    rintro e w1 ⟨_, rfl, hb, rfl⟩
    replace hW := hW.trans (hb.mono hW.size)
    replace bT := bT.keep hb
    replace hT := Cl.at_keep (Keeps.all hb) hT
    clear hb
    rw [h]
    have eT0 := bT.c0
    have lT := bT.lt
    go_wp2_with fail
    clear eT0 lT
    go_ret2
    exact Gives.mk (by rw [HE.out, HS.out]; rfl) hW
set_option maxHeartbeats 1000000 in
theorem impl_FormatClause {t : Cl} {S : Nat → Prop} {c0 : Value} {w : World} (hT : Cl.at S w c0 t) (hbk : t.bulk ≤ 1048576) : Calls Try.prog 38 #[.agg #[c0]] w (Gives w (.tuple #[.string t.textR, .bool t.valid])) := by
  by_cases h : t.valid = true
  · have HS : Hid (bs t.text = t.textR) := by unfold Hid Cl.textR; rw [if_pos h]
    have HE := hid h
    have hva := Cl.valid_atoms h
    obtain ⟨a, cap, rfl⟩ := Cl.at_form hT
    have hW : Below w.heap.size w (w.alloc (.cells #[.slice a t.ls.length cap] 72)) := (Below.refl _ _).alloc (Nat.le_refl _) _
    have bT : Box (w.alloc (.cells #[.slice a t.ls.length cap] 72)) w.heap.size [.slice a t.ls.length cap] := Box.new w _ _
    replace hT := Cl.at_keep (Keeps.all hW) hT
    go_enter Try.func38, Try.ntmps38
    go_wp2_with fail
    generalize (w.alloc (.cells #[.slice a t.ls.length cap] 72)) = w0 at *
    refine (impl_IsValidClause hT hbk).mono ?_
    rintro e w1 ⟨_, rfl, hb, rfl⟩
    replace hW := hW.trans (hb.mono hW.size)
    replace bT := bT.keep hb
    replace hT := Cl.at_keep (Keeps.all hb) hT
    clear hb
    rw [h]
    have eT0 := bT.c0
    have lT := bT.lt
    go_wp2_with fail
    clear eT0 lT
    clear h
    refine (formatClause_any hT hbk hva).mono ?_
    rintro e w1 ⟨_, rfl, hb, rfl⟩
    replace hW := hW.trans (hb.mono hW.size)
    replace bT := bT.keep hb
    replace hT := Cl.at_keep (Keeps.all hb) hT
    clear hb
    have eT0 := bT.c0
    have lT := bT.lt
    go_wp2_with fail
    clear eT0 lT
    go_ret2
    exact Gives.mk (by rw [HE.out, ← HS.out]; rfl) hW
  · replace h : t.valid = false := by simpa using h
    have HS : Hid (t.textR = ⟨#[]⟩) := by unfold Hid Cl.textR; rw [h]; rfl
    have HE := hid h
    obtain ⟨a, cap, rfl⟩ := Cl.at_form hT
    have hW : Below w.heap.size w (w.alloc (.cells #[.slice a t.ls.length cap] 72)) := (Below.refl _ _).alloc (Nat.le_refl _) _
    have bT : Box (w.alloc (.cells #[.slice a t.ls.length cap] 72)) w.heap.size [.slice a t.ls.length cap] := Box.new w _ _
    replace hT := Cl.at_keep (Keeps.all hW) hT
    go_enter Try.func38, Try.ntmps38
    go_wp2_with fail
    generalize (w.alloc (.cells #[.slice a t.ls.length cap] 72)) = w0 at *
    refine (impl_IsValidClause hT hbk).mono ?_
    rintro e w1 ⟨_, rfl, hb, rfl⟩
    replace hW := hW.trans (hb.mono hW.size)
    replace bT := bT.keep hb
    replace hT := Cl.at_keep (Keeps.all hb) hT
    clear hb
    rw [h]
    have eT0 := bT.c0
    have lT := bT.lt
    go_wp2_with fail
    clear eT0 lT
    go_ret2
    exact Gives.mk (by rw [HE.out, HS.out]; rfl) hW
end Go.Proofs.Ytiifibmahomdhaa
