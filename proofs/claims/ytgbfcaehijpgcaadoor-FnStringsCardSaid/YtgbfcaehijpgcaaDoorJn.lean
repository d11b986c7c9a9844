/- strings.Join of a list that a call owns. -/
import Derived.Test.YtgbfcaehijpgcaaDoorAp
import Derived.Test.YtgbfcaehijpgcaaDoorTx
import Derived.Test.YtgbfcaehijpgcaaDoorShelf
namespace Go.Proofs.YtgbfcaehijpgcaaDoor
set_option maxRecDepth 100000
open Go.RowKit

theorem Row.some {w : World} {B : Nat} {v : Value} {ss : List ByteArray} (h : Row w B v ss) (hne : ss ≠ []) : ∃ g cap, v = .slice (some ⟨g, 0, none⟩) ss.length cap ∧ B ≤ g ∧ g < w.heap.size ∧ ss.length ≤ cap := by
  rcases h.1.2 with ⟨_, h0⟩ | ⟨g, cap, cur, rfl, hb, hg, hc, hm, _⟩
  · exact absurd (List.length_eq_zero_iff.1 h0) hne
  · exact ⟨g, cap, rfl, hb, lt_of_heap hg, hc⟩

theorem join_any {w : World} {B : Nat} {v : Value} {xs : List (List UInt8)} (sep : List UInt8) (h : Row w B v (xs.map bs)) (hl : (Lib.join xs sep).length ≤ 140737488355328) (hN : xs.length ≤ 140737488355328) :
    Calls Tryd.prog 69 #[v, .string (bs sep)] w (Gives w (.string (bs (Lib.join xs sep)))) := by
  have hid : (xs.map bs).map (·.data.toList) = xs := by
    rw [List.map_map]
    have : ((fun x : ByteArray => x.data.toList) ∘ bs) = id := by funext x; simp [bs]
    rw [this, List.map_id]
  by_cases hx : xs = []
  · subst hx
    obtain ⟨a, cap, rfl, _, _⟩ := h.form
    refine (Tryd.strings_Join_none a cap (bs sep) w).mono fun e w' ⟨he, hw⟩ => ?_
    subst hw
    exact Gives.mk (by rw [he]; rfl) (Below.refl _ _)
  · obtain ⟨g, cap, rfl, hb, hlt, hc⟩ := h.some (by simpa using hx)
    refine (Tryd.strings_Join g 0 cap (xs.map bs) (bs sep) w (h.cells rfl) hlt (by simpa using hN) hc (by rw [hid, bs_list]; exact hl)).mono fun e w' ⟨he, hb'⟩ => ?_
    rw [hid, bs_list] at he
    exact Gives.mk (by rw [he]; rfl) hb'
end Go.Proofs.YtgbfcaehijpgcaaDoor
