/- IsTautology. -/
import Derived.Test.YtiifibmahomdhaaTa
import Derived.Test.YtiifibmahomdhaaTb
namespace Go.Proofs.Ytiifibmahomdhaa
set_option maxRecDepth 100000
open Go.RowKit

def Cl.tautR (t : Cl) : Bool := t.valid && t.taut
set_option maxHeartbeats 1000000 in
theorem spec_IsTautology {t : Cl} {S : Nat → Prop} {c0 : Value} {w : World} (hT : Cl.at S w c0 t) (hbk : t.bulk ≤ 1048576) : Calls Try.prog 46 #[.agg #[c0]] w (Gives w (.tuple #[.bool t.tautR, .bool t.valid])) := by
  by_cases h : t.valid = true
  · have HS : Hid (t.taut = t.tautR) := by rw [Hid, Cl.tautR, h]; rfl
    have HE := hid h
    obtain ⟨a, cap, rfl⟩ := Cl.at_form hT
    have hW : Below w.heap.size w (w.alloc (.cells #[.slice a t.ls.length cap] 72)) := (Below.refl _ _).alloc (Nat.le_refl _) _
    have bT : Box (w.alloc (.cells #[.slice a t.ls.length cap] 72)) w.heap.size [.slice a t.ls.length cap] := Box.new w _ _
    replace hT := Cl.at_keep (Keeps.all hW) hT
    go_enter Try.func46, Try.ntmps46
    go_wp2_with fail
    generalize (w.alloc (.cells #[.slice a t.ls.length cap] 72)) = w0 at *
    refine (l7Good_any hT hbk).mono ?_
    rintro e w1 ⟨_, rfl, hb, rfl⟩
    replace hW := hW.trans (hb.mono hW.size)
    replace bT := bT.keep hb
    replace hT := Cl.at_keep (Keeps.all hb) hT
    clear hb
    rw [h]
    have eT0 := bT.c0
    have lT := bT.lt
    go_wp2_with fail
    clear eT0 lT
    clear h
    refine (l7Taut_any HE.out hT hbk).mono ?_
    rintro e w1 ⟨_, rfl, hb, rfl⟩
    replace hW := hW.trans (hb.mono hW.size)
    replace bT := bT.keep hb
    replace hT := Cl.at_keep (Keeps.all hb) hT
    clear hb
    have eT0 := bT.c0
    have lT := bT.lt
    go_wp2_with fail
    clear eT0 lT
    go_ret2
    exact Gives.mk (by rw [HE.out, ← HS.out]; rfl) hW
  · replace h : t.valid = false := by simpa using h
    have HS : Hid (t.tautR = false) := by simp [Hid, Cl.tautR, h]
    have HE := hid h
    obtain ⟨a, cap, rfl⟩ := Cl.at_form hT
    have hW : Below w.heap.size w (w.alloc (.cells #[.slice a t.ls.length cap] 72)) := (Below.refl _ _).alloc (Nat.le_refl _) _
    have bT : Box (w.alloc (.cells #[.slice a t.ls.length cap] 72)) w.heap.size [.slice a t.ls.length cap] := Box.new w _ _
    replace hT := Cl.at_keep (Keeps.all hW) hT
    go_enter Try.func46, Try.ntmps46
    go_wp2_with fail
    generalize (w.alloc (.cells #[.slice a t.ls.length cap] 72)) = w0 at *
    refine (l7Good_any hT hbk).mono ?_
    rintro e w1 ⟨_, rfl, hb, rfl⟩
    replace hW := hW.trans (hb.mono hW.size)
    replace bT := bT.keep hb
    replace hT := Cl.at_keep (Keeps.all hb) hT
    clear hb
    rw [h]
    have eT0 := bT.c0
    have lT := bT.lt
    go_wp2_with fail
    clear eT0 lT
    go_ret2
    exact Gives.mk (by rw [HE.out, HS.out]; rfl) hW
set_option maxHeartbeats 1000000 in
theorem impl_IsTautology {t : Cl} {S : Nat → Prop} {c0 : Value} {w : World} (hT : Cl.at S w c0 t) (hbk : t.bulk ≤ 1048576) : Calls Try.prog 47 #[.agg #[c0]] w (Gives w (.tuple #[.bool t.tautR, .bool t.valid])) := by
  by_cases h : t.valid = true
  · have HS : Hid (t.taut = t.tautR) := by rw [Hid, Cl.tautR, h]; rfl
    have HE := hid h
    obtain ⟨a, cap, rfl⟩ := Cl.at_form hT
    have hW : Below w.heap.size w (w.alloc (.cells #[.slice a t.ls.length cap] 72)) := (Below.refl _ _).alloc (Nat.le_refl _) _
    have bT : Box (w.alloc (.cells #[.slice a t.ls.length cap] 72)) w.heap.size [.slice a t.ls.length cap] := Box.new w _ _
    replace hT := Cl.at_keep (Keeps.all hW) hT
    go_enter Try.func47, Try.ntmps47
    go_wp2_with fail
    generalize (w.alloc (.cells #[.slice a t.ls.length cap] 72)) = w0 at *
    refine (impl_IsValidClause hT hbk).mono ?_
    rintro e w1 ⟨_, rfl, hb, rfl⟩
    replace hW := hW.trans (hb.mono hW.size)
    replace bT := bT.keep hb
    replace hT := Cl.at_keep (Keeps.all hb) hT
    clear hb
    rw [h]
    have eT0 := bT.c0
    have lT := bT.lt
    go_wp2_with fail
    clear eT0 lT
    clear h
    refine (isTautology_any HE.out hT hbk).mono ?_
    rintro e w1 ⟨_, rfl, hb, rfl⟩
    replace hW := hW.trans (hb.mono hW.size)
    replace bT := bT.keep hb
    replace hT := Cl.at_keep (Keeps.all hb) hT
    clear hb
    have eT0 := bT.c0
    have lT := bT.lt
    go_wp2_with fail
    clear eT0 lT
    go_ret2
    exact Gives.mk (by rw [HE.out, ← HS.out]; rfl) hW
  · replace h : t.valid = false := by simpa using h
    have HS : Hid (t.tautR = false) := by simp [Hid, Cl.tautR, h]
    have HE := hid h
    obtain ⟨a, cap, rfl⟩ := Cl.at_form hT
    have hW : Below w.heap.size w (w.alloc (.cells #[.slice a t.ls.length cap] 72)) := (Below.refl _ _).alloc (Nat.le_refl _) _
    have bT : Box (w.alloc (.cells #[.slice a t.ls.length cap] 72)) w.heap.size [.slice a t.ls.length cap] := Box.new w _ _
    replace hT := Cl.at_keep (Keeps.all hW) hT
    go_enter Try.func47, Try.ntmps47
    go_wp2_with fail
    generalize (w.alloc (.cells #[.slice a t.ls.length cap] 72)) = w0 at *
    refine (impl_IsValidClause hT hbk).mono ?_
    rintro e w1 ⟨_, rfl, hb, rfl⟩
    replace hW := hW.trans (hb.mono hW.size)
    replace bT := bT.keep hb
    replace hT := Cl.at_keep (Keeps.all hb) hT
    clear hb
    rw [h]
    have eT0 := bT.c0
    have lT := bT.lt
    go_wp2_with fail
    clear eT0 lT
    go_ret2
    exact Gives.mk (by rw [HE.out, HS.out]; rfl) hW
end Go.Proofs.Ytiifibmahomdhaa
