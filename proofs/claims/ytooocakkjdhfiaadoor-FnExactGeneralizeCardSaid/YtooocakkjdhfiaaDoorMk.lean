/- Data that a call owns are marked: lists of ints, lists of strings. -/
import Derived.Test.YtooocakkjdhfiaaDoorOw
import Derived.Test.YtooocakkjdhfiaaDoorMt
import Derived.Test.YtooocakkjdhfiaaDoorIl
namespace Go.Proofs.YtooocakkjdhfiaaDoor
set_option maxRecDepth 100000
open Go.RowKit

/-- only blocks of F are changed, and new ones laid -/
def Mk (F : List Nat) (w w' : World) : Prop := Keeps (· ∉ F) w w' ∧ ∀ B, B ≤ w.heap.size → (∀ x ∈ F, B ≤ x) → Below B w w'
theorem Mk.refl (F : List Nat) (w : World) : Mk F w w := ⟨Keeps.refl _ _, fun _ _ _ => Below.refl _ _⟩
theorem Mk.size {F : List Nat} {w w' : World} (h : Mk F w w') : w.heap.size ≤ w'.heap.size := h.1.size
theorem Mk.trans {F : List Nat} {a b c : World} (h : Mk F a b) (k : Mk F b c) : Mk F a c :=
  ⟨h.1.trans k.1, fun B hB hF => (h.2 B hB hF).trans (k.2 B (Nat.le_trans hB h.size) hF)⟩
theorem Mk.of_below {F : List Nat} {w w' : World} (h : Below w.heap.size w w') : Mk F w w' := ⟨Keeps.all h, fun _ hB _ => h.mono hB⟩
theorem Mk.mono {F G : List Nat} {w w' : World} (h : Mk F w w') (hs : ∀ x ∈ F, x ∈ G) : Mk G w w' := ⟨h.1.mono fun b hb q => hb (hs b q), fun B hB hG => h.2 B hB fun x hx => hG x (hs x hx)⟩
theorem Mk.set {F : List Nat} {w : World} {b p : Nat} (hb : b ∈ F) (u : Value) : Mk F w (w.setCell ⟨b, p, none⟩ u) :=
  ⟨(Keeps.refl _ _).setCell (fun q _ => q hb) _, fun _ _ hF => (Below.refl _ _).setCell (p := ⟨b, p, none⟩) (hF b hb) u⟩

def mixI (zs : List Int) (k : Nat) : Nat → List Int
  | 0 => zs
  | j + 1 => (mixI zs k j).set j ((k + j : Nat) : Int)
theorem mixI_length (zs : List Int) (k : Nat) : ∀ j, (mixI zs k j).length = zs.length
  | 0 => rfl
  | j + 1 => by rw [mixI, List.length_set, mixI_length zs k j]
theorem mixI_get (zs : List Int) (k : Nat) : ∀ j i (h : i < (mixI zs k j).length), i < j → (mixI zs k j)[i] = ((k + i : Nat) : Int)
  | 0, i, h, hi => absurd hi (by omega)
  | j + 1, i, h, hi => by
    simp only [mixI, List.getElem_set]
    split
    · rename_i e; subst e; rfl
    · exact mixI_get zs k j i (by simpa [mixI] using h) (by omega)
theorem flat_set_int (l : List Int) (j : Nat) (z : Int) : (l.flatMap intE).set j (.num z) = (l.set j z).flatMap intE := by
  have e : ∀ l : List Int, l.flatMap intE = l.map D.num := by intro l; induction l with
    | nil => rfl
    | cons x l ih => rw [List.flatMap_cons, ih]; rfl
  rw [e, e, List.map_set]



def mixS (zs : List ByteArray) (k : Nat) : Nat → List ByteArray
  | 0 => zs
  | j + 1 => (mixS zs k j).set j (bs (mtext (k + j)))
theorem mixS_length (zs : List ByteArray) (k : Nat) : ∀ j, (mixS zs k j).length = zs.length
  | 0 => rfl
  | j + 1 => by rw [mixS, List.length_set, mixS_length zs k j]
theorem mixS_get (zs : List ByteArray) (k : Nat) : ∀ j i (h : i < (mixS zs k j).length), i < j → (mixS zs k j)[i] = bs (mtext (k + i))
  | 0, i, h, hi => absurd hi (by omega)
  | j + 1, i, h, hi => by
    simp only [mixS, List.getElem_set]
    split
    · rename_i e; subst e; rfl
    · exact mixS_get zs k j i (by simpa [mixS] using h) (by omega)
theorem flat_set_str (l : List ByteArray) (j : Nat) (z : ByteArray) : (l.flatMap strE).set j (.str z) = (l.set j z).flatMap strE := by
  have e : ∀ l : List ByteArray, l.flatMap strE = l.map D.str := by intro l; induction l with
    | nil => rfl
    | cons x l ih => rw [List.flatMap_cons, ih]; rfl
  rw [e, e, List.map_set]


end Go.Proofs.YtooocakkjdhfiaaDoor
