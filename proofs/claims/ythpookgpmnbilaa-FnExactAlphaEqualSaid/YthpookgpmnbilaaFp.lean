/- Formulas, plain: size and form. -/
import Derived.Test.YthpookgpmnbilaaFm
import Derived.Test.YthpookgpmnbilaaTp
namespace Go.Proofs.Ythpookgpmnbilaa
set_option maxRecDepth 100000
open Go.RowKit

theorem Box.c3 {w : World} {b : Nat} {x y z u : Value} {cs : List Value} (h : Box w b (x :: y :: z :: u :: cs)) : w.cell? ⟨b, 3, none⟩ = some u := h.cell 3 (by simp)
theorem Box.c4 {w : World} {b : Nat} {x y z u v : Value} {cs : List Value} (h : Box w b (x :: y :: z :: u :: v :: cs)) : w.cell? ⟨b, 4, none⟩ = some v := h.cell 4 (by simp)

mutual
def Fm.size : Fm → Nat
  | .node _ _ _ ps => 1 + Fm.sizes ps
def Fm.sizes : List Fm → Nat
  | [] => 0
  | t :: ts => Fm.size t + Fm.sizes ts
end
theorem Fm.size_eq (x : Fm) : x.size = 1 + Fm.sizes x.parts := by cases x; rw [Fm.size]; rfl
theorem Fm.sizes_take : ∀ (ts : List Fm) (k : Nat) (hk : k < ts.length), Fm.sizes (ts.take (k + 1)) = Fm.sizes (ts.take k) + ts[k].size
  | [], k, hk => absurd hk (by simp)
  | t :: ts, 0, _ => by simp [Fm.sizes]
  | t :: ts, k + 1, hk => by
    have := Fm.sizes_take ts k (by simpa using hk)
    simp only [List.take_succ_cons, Fm.sizes, this, List.getElem_cons_succ]; omega
theorem Fm.sizes_le : ∀ (ts : List Fm) (k : Nat), Fm.sizes (ts.take k) ≤ Fm.sizes ts
  | [], k => by simp
  | t :: ts, 0 => by simp [Fm.sizes]
  | t :: ts, k + 1 => by
    have := Fm.sizes_le ts k
    simp only [List.take_succ_cons, Fm.sizes]; omega
theorem Fm.size_bulk (x : Fm) : x.size ≤ 1 + x.bulk := by
  refine Fm.ind (P := fun x => x.size ≤ 1 + x.bulk) (fun o a v ps ih => ?_) x
  rw [Fm.size, Fm.bulk]
  have key : ∀ ps : List Fm, (∀ p ∈ ps, p.size ≤ 1 + p.bulk) → Fm.sizes ps ≤ ps.length + Fm.bulks ps := by
    intro ps
    induction ps with
    | nil => intro _; simp [Fm.sizes]
    | cons p ps ihp =>
      intro h
      have h0 := h p (by simp)
      have h1 := ihp fun q hq => h q (by simp [hq])
      simp only [Fm.sizes, Fm.bulks, List.length_cons]; omega
  have := key ps ih
  omega

/-- the empty term -/
def Tm.none (t : Tm) : Bool := decide (t.name = ⟨#[]⟩) && decide (t.args.length = 0)
def quantOp (o : Int) : Bool := decide (o = 8) || decide (o = 9)
def binOp (o : Int) : Bool := decide (o = 5) || decide (o = 6) || decide (o = 7)
/-- how many parts a formula with this number has -/
def arity (o : Int) : Option Nat := if o = 1 ∨ o = 2 ∨ o = 3 then some 0 else if o = 4 ∨ quantOp o = true then some 1 else if binOp o = true then some 2 else none
/-- a formula's own form -/
def Fm.form (x : Fm) : Bool := decide (arity x.op = some x.parts.length) && (if x.op = 3 then x.atom.atom else x.atom.none) && (if quantOp x.op = true then varName x.v else decide (x.v = ⟨#[]⟩))
mutual
def Fm.forms : Fm → Bool
  | .node o a v ps => Fm.form (.node o a v ps) && Fm.formsAll ps
def Fm.formsAll : List Fm → Bool
  | [] => true
  | t :: ts => Fm.forms t && Fm.formsAll ts
end
theorem Fm.forms_eq (x : Fm) : x.forms = (x.form && Fm.formsAll x.parts) := by cases x; rw [Fm.forms]; rfl
theorem Fm.formsAll_iff (ts : List Fm) : Fm.formsAll ts = true ↔ ∀ t ∈ ts, t.forms = true := by
  induction ts with
  | nil => simp [Fm.formsAll]
  | cons t ts ih => simp [Fm.formsAll, ih]
theorem Fm.any_forms (ts : List Fm) : ts.any (fun t => !t.forms) = !Fm.formsAll ts := by
  rw [Bool.eq_iff_iff]
  simp only [List.any_eq_true, Bool.not_eq_true', Bool.eq_false_iff, Ne, Fm.formsAll_iff]
  constructor
  · rintro ⟨t, ht, hn⟩ h; exact hn (h t ht)
  · intro h
    refine Classical.byContradiction fun hc => h fun t ht => Classical.byContradiction fun hn => hc ⟨t, ht, hn⟩
theorem Fm.formsAll_take {ts : List Fm} {k : Nat} (hk : k < ts.length) (h : Fm.formsAll (ts.take k) = true) (h2 : ts[k].forms = true) : Fm.formsAll (ts.take (k + 1)) = true := by
  rw [Fm.formsAll_iff] at *
  intro t ht
  rw [List.take_succ_eq_append_getElem hk] at ht
  rcases List.mem_append.1 ht with ht | ht
  · exact h t ht
  · rw [List.mem_singleton.1 ht]; exact h2
theorem Fm.formsAll_bad {ts : List Fm} {k : Nat} (hk : k < ts.length) (h2 : ts[k].forms = false) : Fm.formsAll ts = false := by
  rw [Bool.eq_false_iff]; intro e
  rw [(Fm.formsAll_iff ts).1 e _ (List.getElem_mem hk)] at h2
  exact absurd h2 (by simp)
def Fm.valid (x : Fm) : Bool := decide (x.size ≤ 40) && x.forms
end Go.Proofs.Ythpookgpmnbilaa
