/- Lists of strings that grow and that the call owns. -/
import Derived.Test.YtglhbaigigdeeaaDoorGr
import Derived.Test.YtglhbaigigdeeaaDoorAp
namespace Go.Proofs.YtglhbaigigdeeaaDoor
set_option maxRecDepth 100000
open Go.RowKit

/-- a list of strings that grows and that the call owns -/
def GS (w : World) (B : Nat) (v : Value) (ss : List ByteArray) : Prop := Gr w B 9 1 v ss.length (ss.flatMap strE) []
theorem strE_flat (ss : List ByteArray) : ss.flatMap strE = ss.map D.str := by
  induction ss with
  | nil => rfl
  | cons z ss ih => rw [List.flatMap_cons, ih]; rfl
theorem ownsL_strs {w : World} : ∀ (ss : List ByteArray), (∀ s ∈ ss, s.size ≤ maxLen) → OwnsL w (ss.map Value.string) (ss.flatMap strE) []
  | [], _ => OwnsL.nil w
  | s :: ss, h => by
    have := OwnsL.cons (F := []) (D.own_str (w := w) (h s (by simp))) (ownsL_strs ss fun y hy => h y (by simp [hy])) (by simp)
    simpa [List.flatMap_cons, strE] using this
theorem GS.nil (w : World) (B : Nat) : GS w B (.slice none 0 0) [] := Gr.nil w B _ _
theorem GS.made {w : World} {B n : Nat} (hn : n = w.heap.size) (hB : B ≤ w.heap.size) : GS (w.alloc (.cells #[] 9)) B (.slice (some ⟨n, 0, none⟩) 0 0) [] := Gr.made _ _ hn hB
theorem GS.keep {w w' : World} {B : Nat} {v : Value} {ss : List ByteArray} (h : GS w B v ss) (hb : Below w.heap.size w w') : GS w' B v ss := Gr.keep h hb
theorem GS.own {w : World} {B : Nat} {v : Value} {ss : List ByteArray} (h : GS w B v ss) : ∃ G, D.own w v (slOf strE ss) G ∧ ∀ x ∈ G, B ≤ x := Gr.own h (by decide)
theorem GS.rd {w : World} {B : Nat} {v : Value} {ss : List ByteArray} (h : GS w B v ss) : D.rd (fun _ => True) w v (slOf strE ss) := by
  obtain ⟨G, h, _⟩ := h.own
  exact D.rd_mono (fun _ _ => trivial) _ _ (D.own_rd _ _ _ h)
theorem GS.form {w : World} {B : Nat} {v : Value} {ss : List ByteArray} (h : GS w B v ss) : ∃ a cap, v = .slice a ss.length cap ∧ ss.length ≤ big ∧ ss.length ≤ cap := Gr.form h
theorem GS.lt {w : World} {B : Nat} {v : Value} {ss : List ByteArray} (h : GS w B v ss) : ∀ k, v.ownBlock = some k → B ≤ k ∧ k < w.heap.size := Gr.lt h
theorem GS.strs {w : World} {B : Nat} {v : Value} {ss : List ByteArray} (h : GS w B v ss) : ∀ s ∈ ss, s.size ≤ maxLen := by
  intro s hs
  obtain ⟨a, cap, rfl, _, _⟩ := h.form
  have hne : ss ≠ [] := by intro e; subst e; cases hs
  obtain ⟨b, off, rfl, _, _, hrr⟩ := strs_get h.rd hne
  obtain ⟨i, hi, rfl⟩ := List.mem_iff_getElem.1 hs
  exact (hrr i hi).2
theorem GS.mono {w : World} {B B' : Nat} {v : Value} {ss : List ByteArray} (h : GS w B v ss) (hB : B' ≤ B) : GS w B' v ss := by
  obtain ⟨vs, h0, h1, h2, h3⟩ := h
  refine ⟨vs, ⟨h0.1, ?_⟩, h1, by simp, h3⟩
  rcases h0.2 with h4 | ⟨g, cap, cur, q0, q1, q⟩
  · exact .inl h4
  · exact .inr ⟨g, cap, cur, q0, Nat.le_trans hB q1, q⟩
theorem OwnsL.vals {w : World} : ∀ {vs : List Value} {ss : List ByteArray} {F : List Nat}, OwnsL w vs (ss.flatMap strE) F → vs = ss.map Value.string
  | vs, [], F, h => by
    have := h.length
    simp at this
    simpa using this
  | vs, s :: ss, F, h => by
    rw [List.flatMap_cons] at h
    cases vs with
    | nil => have := h.length; simp [strE] at this
    | cons v vs =>
      rw [show strE s ++ ss.flatMap strE = .str s :: ss.flatMap strE from rfl, OwnsL] at h
      obtain ⟨F1, F2, _, _, h1, h2⟩ := h
      rw [D.own] at h1
      rw [h2.vals, h1.1]
      rfl
/-- the same row in the kit's words -/
theorem GS.row {w : World} {B : Nat} {v : Value} {ss : List ByteArray} (h : GS w B v ss) : Row w B v ss := by
  have hs := h.strs
  obtain ⟨vs, h0, h1, _⟩ := h
  rw [h1.vals] at h0
  exact ⟨h0, hs⟩
theorem GS.of_row {w : World} {B : Nat} {v : Value} {ss : List ByteArray} (h : Row w B v ss) : GS w B v ss :=
  ⟨_, h.1, ownsL_strs ss h.2, by simp, by simp⟩
end Go.Proofs.YtglhbaigigdeeaaDoor
