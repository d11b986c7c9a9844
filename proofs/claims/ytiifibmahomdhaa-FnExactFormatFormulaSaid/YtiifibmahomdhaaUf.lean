/- The texts of formulas. Plain. -/
import Derived.Test.YtiifibmahomdhaaFf
import Derived.Test.YtiifibmahomdhaaTx
namespace Go.Proofs.Ytiifibmahomdhaa
set_option maxRecDepth 100000
open Go.RowKit

def signOf (o : Int) : List UInt8 := if o = 7 then [32, 61, 62, 32] else if o = 6 then [32, 124, 32] else [32, 38, 32]
def fText (o : Int) (a : List UInt8) (v : ByteArray) (e0 : Bool) (x0 x1 : List UInt8) : List UInt8 :=
  if o = 1 then [116, 114, 117, 101] else if o = 2 then [102, 97, 108, 115, 101] else if o = 3 then a
  else if o = 4 then (if e0 = true then [126, 40] ++ x0 ++ [41] else [126] ++ x0)
  else if o = 8 then [97, 108, 108, 32] ++ v.data.toList ++ [46] ++ x0
  else if o = 9 then [115, 111, 109, 101, 32] ++ v.data.toList ++ [46] ++ x0
  else [40] ++ x0 ++ signOf o ++ x1 ++ [41]
mutual
def Fm.text : Fm → List UInt8
  | .node o a v ps => fText o a.text v (((Fm.texts ps).getD 0 (false, [])).1) (((Fm.texts ps).getD 0 (false, [])).2) (((Fm.texts ps).getD 1 (false, [])).2)
def Fm.texts : List Fm → List (Bool × List UInt8)
  | [] => []
  | p :: ps => (decide (p.atom.name = eqSign), Fm.text p) :: Fm.texts ps
end
theorem Fm.text_eq (t : Fm) : t.text = fText t.op t.atom.text t.v (((Fm.texts t.parts).getD 0 (false, [])).1) (((Fm.texts t.parts).getD 0 (false, [])).2) (((Fm.texts t.parts).getD 1 (false, [])).2) := by cases t; rw [Fm.text]; rfl
theorem Fm.texts_0 {ps : List Fm} (h : 0 < ps.length) : (Fm.texts ps).getD 0 (false, []) = (decide (ps[0].atom.name = eqSign), ps[0].text) := by
  cases ps with
  | nil => simp at h
  | cons p ps => rw [Fm.texts]; rfl
theorem Fm.texts_1 {ps : List Fm} (h : 1 < ps.length) : (Fm.texts ps).getD 1 (false, []) = (decide (ps[1].atom.name = eqSign), ps[1].text) := by
  match ps, h with
  | p :: q :: ps, _ => rw [Fm.texts, Fm.texts]; rfl
theorem signOf_length (o : Int) : (signOf o).length ≤ 4 := by unfold signOf; split <;> (try split) <;> simp
theorem fText_length (o : Int) (a : List UInt8) (v : ByteArray) (e0 : Bool) (x0 x1 : List UInt8) : (fText o a v e0 x0 x1).length ≤ a.length + v.size + x0.length + x1.length + 10 := by
  have hv : v.data.toList.length = v.size := rfl
  have hs := signOf_length o
  unfold fText
  split
  · simp
  split
  · simp
  split
  · omega
  split
  · split <;> simp <;> omega
  split
  · simp; omega
  split
  · simp; omega
  · simp; omega
def Fm.lens : List (Bool × List UInt8) → Nat
  | [] => 0
  | x :: xs => x.2.length + Fm.lens xs
theorem Fm.text_lens (t : Fm) : t.text.length ≤ 4 * t.bulk + 20 * t.size := by
  refine Fm.ind (P := fun t => t.text.length ≤ 4 * t.bulk + 20 * t.size) (fun o a v ps ih => ?_) t
  have key : ∀ ps : List Fm, (∀ p ∈ ps, p.text.length ≤ 4 * p.bulk + 20 * p.size) → Fm.lens (Fm.texts ps) ≤ 4 * Fm.bulks ps + 20 * Fm.sizes ps := by
    intro ps
    induction ps with
    | nil => intro _; simp [Fm.texts, Fm.lens]
    | cons p ps ihp =>
      intro h
      have h0 := h p (by simp)
      have h1 := ihp fun q hq => h q (by simp [hq])
      simp only [Fm.texts, Fm.lens, Fm.bulks, Fm.sizes] at h1 ⊢; omega
  have hk := key ps ih
  have hg : ∀ xs : List (Bool × List UInt8), (xs.getD 0 (false, [])).2.length + (xs.getD 1 (false, [])).2.length ≤ Fm.lens xs := by
    intro xs
    match xs with
    | [] => simp
    | [x] => simp [Fm.lens]
    | x :: y :: r => simp [Fm.lens]
  have hg' := hg (Fm.texts ps)
  have ha := Tm.text_lens a
  have hb := Tm.size_bulk a
  have hf := fText_length o a.text v (((Fm.texts ps).getD 0 (false, [])).1) (((Fm.texts ps).getD 0 (false, [])).2) (((Fm.texts ps).getD 1 (false, [])).2)
  rw [Fm.text, Fm.bulk, Fm.size]
  omega
theorem Fm.text_le (t : Fm) (h : t.bulk ≤ 1048576) : t.text.length ≤ 25165844 := by
  have := Fm.text_lens t; have := Fm.size_bulk t; omega
end Go.Proofs.Ytiifibmahomdhaa
