/- A variable of the library's that holds some number. -/
import Derived.Test.YtgbfcaehijpgcaaDoorLd
import Derived.Test.YtgbfcaehijpgcaaDoorShelf
namespace Go.Proofs.YtgbfcaehijpgcaaDoor
set_option maxRecDepth 100000
open Go Go.RowKit

def MaxF (w : World) : Prop := ∃ m, w.cell? ⟨0, 0, none⟩ = some (.int .i64 m)
theorem max_of {w : World} (h : w.ShapedOpen Tryd.prog) : MaxF w := Tryd.laysM144.s1_3 w h
theorem MaxF.keep {w w' : World} (h : MaxF w) (hb : Below w.heap.size w w') : MaxF w' := by
  obtain ⟨m, hm⟩ := h
  have hl : 0 < w.heap.size := by
    rcases Nat.lt_or_ge 0 w.heap.size with q | q
    · exact q
    · unfold World.cell? at hm
      rw [show w.heap[(0 : Nat)]? = none from Array.getElem?_eq_none q] at hm
      cases hm
  exact ⟨m, (hb.cell (p := ⟨0, 0, none⟩) hl).trans hm⟩
end Go.Proofs.YtgbfcaehijpgcaaDoor
