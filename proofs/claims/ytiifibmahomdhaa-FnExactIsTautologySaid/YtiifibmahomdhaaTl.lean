/- Is a clause a tautology? -/
import Derived.Test.YtiifibmahomdhaaCv
import Derived.Test.YtiifibmahomdhaaSame
namespace Go.Proofs.Ytiifibmahomdhaa
set_option maxRecDepth 100000
open Go.RowKit

/-- a positive equation of a term with itself -/
def Lit.selfEq (x : Lit) : Bool := x.pos && x.atom.isEq && (match x.atom.args with | [a, b] => Tm.eqb a b | _ => false)
def Lit.tautAt (ts : List Lit) (k : Nat) : Bool :=
  match ts[k]?, k with
  | none, _ => false
  | some b, 0 => b.selfEq
  | some b, j + 1 => b.selfEq || ((ts[j]?).map fun p => Tm.eqb p.atom b.atom).getD false
def Cl.taut (x : Cl) : Bool := (List.range x.ls.length).any (Lit.tautAt x.ls)
theorem Lit.selfEq_two {x : Lit} (h : x.atom.args.length = 2) : x.selfEq = (x.pos && x.atom.isEq && Tm.eqb (x.atom.args[0]'(by omega)) (x.atom.args[1]'(by omega))) := by
  obtain ⟨p, ⟨n, us⟩⟩ := x
  match us, h with
  | [a, b], _ => rfl
theorem Lit.tautAt_zero {ts : List Lit} (h : 0 < ts.length) : Lit.tautAt ts 0 = ts[0].selfEq := by
  unfold Lit.tautAt; rw [List.getElem?_eq_getElem h]
theorem Lit.tautAt_succ {ts : List Lit} {j : Nat} (h : j + 1 < ts.length) : Lit.tautAt ts (j + 1) = (ts[j + 1].selfEq || Tm.eqb ts[j].atom ts[j + 1].atom) := by
  unfold Lit.tautAt
  rw [List.getElem?_eq_getElem h]
  show (ts[j + 1].selfEq || (Option.map (fun p : Lit => Tm.eqb p.atom ts[j + 1].atom) ts[j]?).getD false) = _
  rw [List.getElem?_eq_getElem (show j < ts.length by omega)]; rfl
theorem Lit.taut_self {ts : List Lit} {k : Nat} (h : k < ts.length) (hf : ts[k].selfEq = true) : Lit.tautAt ts k = true := by
  cases k with
  | zero => rw [Lit.tautAt_zero h, hf]
  | succ j => rw [Lit.tautAt_succ h, hf]; rfl
theorem Lit.taut_prev {ts : List Lit} {k j : Nat} (hj : k = j + 1) (h : k < ts.length) (hf : Tm.eqb (ts[j]'(by omega)).atom ts[k].atom = true) : Lit.tautAt ts k = true := by
  subst hj; rw [Lit.tautAt_succ h, hf]; simp
theorem Lit.taut_no {ts : List Lit} {k j : Nat} (hj : k = j + 1) (h : k < ts.length) (hs : ts[k].selfEq = false) (hf : Tm.eqb (ts[j]'(by omega)).atom ts[k].atom = false) : Lit.tautAt ts k = false := by
  subst hj; rw [Lit.tautAt_succ h, hs, hf]; rfl
theorem Lit.taut_no0 {ts : List Lit} {k : Nat} (hj : k = 0) (h : k < ts.length) (hs : ts[k].selfEq = false) : Lit.tautAt ts k = false := by
  subst hj; rw [Lit.tautAt_zero h, hs]
theorem Cl.taut_yes {ts : List Lit} {k : Nat} (h : k < ts.length) (hf : Lit.tautAt ts k = true) : Cl.taut ⟨ts⟩ = true := by
  rw [Cl.taut, List.any_eq_true]; exact ⟨k, List.mem_range.2 h, hf⟩
theorem Cl.taut_not {ts : List Lit} (h : ∀ i, i < ts.length → Lit.tautAt ts i = false) : Cl.taut ⟨ts⟩ = false := by
  rw [Bool.eq_false_iff]; intro e
  rw [Cl.taut, List.any_eq_true] at e
  obtain ⟨k, hk, ht⟩ := e
  rw [h k (List.mem_range.1 hk)] at ht
  exact absurd ht (by simp)
theorem Cl.valid_at {ts : List Lit} (h : Cl.valid ⟨ts⟩ = true) {k : Nat} (hk : k < ts.length) : ts[k].atom.atom = true := by
  rw [Cl.valid, Bool.and_eq_true, Lit.allOk, List.all_eq_true] at h
  exact Lit.okAt_valid hk (h.1 k (List.mem_range.2 hk))
theorem Tm.isEq_name {t : Tm} (h : t.isEq = true) : t.name = eqSign := by simpa [Tm.isEq] using h
theorem Tm.isEq_two {t : Tm} (h : t.isEq = true) (ha : t.atom = true) : t.args.length = 2 := by
  rw [Tm.atom_eq, if_pos (Tm.isEq_name h)] at ha
  simp only [Bool.and_eq_true, decide_eq_true_eq] at ha
  exact ha.1.1
theorem eq61 : ([61] : List UInt8) = eqSign.toList := by rw [ByteArray.toList_eq]; rfl
theorem Tm.isEq_61 {t : Tm} (h : t.isEq = true) : (t.name.toList == [61]) = true := by rw [eq61, Tm.isEq_name h]; simp
theorem Tm.isEq_n61 {t : Tm} (h : t.isEq = false) : (t.name.toList == [61]) = false := by
  rw [eq61]; exact toList_ne (by simpa [Tm.isEq] using h)

end Go.Proofs.Ytiifibmahomdhaa
