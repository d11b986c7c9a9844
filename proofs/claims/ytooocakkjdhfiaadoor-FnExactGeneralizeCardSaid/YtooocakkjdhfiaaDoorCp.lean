/- Terms are ordered: plain. -/
import Derived.Test.YtooocakkjdhfiaaDoorTp
import Derived.Test.YtooocakkjdhfiaaDoorTv
import Derived.Test.YtooocakkjdhfiaaDoorOrd
namespace Go.Proofs.YtooocakkjdhfiaaDoor
set_option maxRecDepth 100000
open Go.RowKit

def strCmp (a b : ByteArray) : Int := if Op.bytesLess a.toList b.toList then -1 else if a = b then 0 else 1
def numCmp (a b : Int) : Int := if a < b then -1 else if b < a then 1 else 0
/-- the first, if it tells; else the second -/
def orZ (x y : Int) : Int := if x = 0 then y else x
mutual
def Tm.cmp : Tm → Tm → Int
  | .node n ts, .node m us => if (varName n && !varName m) = true then -1 else if (varName m && !varName n) = true then 1 else orZ (strCmp n m) (orZ (numCmp ts.length us.length) (Tm.cmps ts us))
def Tm.cmps : List Tm → List Tm → Int
  | [], _ => 0
  | _, [] => 0
  | t :: ts, u :: us => orZ (Tm.cmp t u) (Tm.cmps ts us)
end
theorem Tm.cmp_eq (t u : Tm) : Tm.cmp t u = if (varName t.name && !varName u.name) = true then -1 else if (varName u.name && !varName t.name) = true then 1 else orZ (strCmp t.name u.name) (orZ (numCmp t.args.length u.args.length) (Tm.cmps t.args u.args)) := by
  cases t; cases u; rw [Tm.cmp]; rfl
theorem Tm.cmps_drop {ts us : List Tm} {k : Nat} (h : k < ts.length) (h' : k < us.length) : Tm.cmps (ts.drop k) (us.drop k) = orZ (Tm.cmp ts[k] us[k]) (Tm.cmps (ts.drop (k + 1)) (us.drop (k + 1))) := by
  rw [List.drop_eq_getElem_cons h, List.drop_eq_getElem_cons h', Tm.cmps]
theorem Tm.cmps_end (ts us : List Tm) : Tm.cmps (ts.drop ts.length) us = 0 := by simp [Tm.cmps]
theorem strCmp_self (a : ByteArray) : strCmp a a = 0 := by simp [strCmp, bl_irrefl]
theorem strCmp_ne {a b : ByteArray} (h : ¬ a = b) : ¬ strCmp a b = 0 := by
  unfold strCmp; rw [if_neg h]; split <;> decide
theorem strCmp_in (a b : ByteArray) : -1 ≤ strCmp a b ∧ strCmp a b ≤ 1 := by
  unfold strCmp
  split
  · decide
  · split <;> decide
theorem numCmp_in (a b : Int) : -1 ≤ numCmp a b ∧ numCmp a b ≤ 1 := by
  unfold numCmp
  split
  · decide
  · split <;> decide
theorem orZ_in {x y : Int} (h : -1 ≤ x ∧ x ≤ 1) (k : -1 ≤ y ∧ y ≤ 1) : -1 ≤ orZ x y ∧ orZ x y ≤ 1 := by unfold orZ; split <;> assumption
theorem Tm.cmps_in : ∀ (ts us : List Tm), (∀ t ∈ ts, ∀ u, -1 ≤ Tm.cmp t u ∧ Tm.cmp t u ≤ 1) → -1 ≤ Tm.cmps ts us ∧ Tm.cmps ts us ≤ 1
  | [], _, _ => by simp [Tm.cmps]
  | _ :: _, [], _ => by simp [Tm.cmps]
  | t :: ts, u :: us, h => by rw [Tm.cmps]; exact orZ_in (h t (by simp) u) (Tm.cmps_in ts us fun a ha => h a (by simp [ha]))
theorem Tm.cmp_in (t : Tm) : ∀ u, -1 ≤ Tm.cmp t u ∧ Tm.cmp t u ≤ 1 := by
  refine Tm.ind (P := fun t => ∀ u, -1 ≤ Tm.cmp t u ∧ Tm.cmp t u ≤ 1) (fun n ts ih u => ?_) t
  obtain ⟨m, us⟩ := u
  rw [Tm.cmp]
  split
  · decide
  · split
    · decide
    · exact orZ_in (strCmp_in _ _) (orZ_in (numCmp_in _ _) (Tm.cmps_in ts us ih))

mutual
/-- every name tells by its first byte whether it is a variable's -/
def Tm.nice : Tm → Bool
  | .node n ts => decide (1 ≤ n.size) && decide (upB (byteAt n 0) = varName n) && Tm.nices ts
def Tm.nices : List Tm → Bool
  | [] => true
  | t :: ts => Tm.nice t && Tm.nices ts
end
theorem Tm.nices_iff (ts : List Tm) : Tm.nices ts = true ↔ ∀ t ∈ ts, t.nice = true := by
  induction ts with
  | nil => simp [Tm.nices]
  | cons t ts ih => simp [Tm.nices, ih]
theorem Tm.nice_iff (t : Tm) : t.nice = true ↔ 1 ≤ t.name.size ∧ upB (byteAt t.name 0) = varName t.name ∧ ∀ a ∈ t.args, a.nice = true := by
  cases t; simp [Tm.nice, Tm.nices_iff, Tm.name, Tm.args, and_assoc]
theorem varName_first {n : ByteArray} (h : varName n = true) : 1 ≤ n.size ∧ upB (byteAt n 0) = true := by
  simp only [varName, Bool.and_eq_true, decide_eq_true_eq] at h
  obtain ⟨⟨h0, h1⟩, _⟩ := h
  refine ⟨h1, ?_⟩
  unfold allCh at h0
  rw [List.all_eq_true] at h0
  have := h0 0 (List.mem_range.2 (by omega))
  simpa [varCh] using this
theorem symName_first {n : ByteArray} (h : symName n = true) : 1 ≤ n.size ∧ upB (byteAt n 0) = false := by
  simp only [symName, Bool.and_eq_true, decide_eq_true_eq] at h
  obtain ⟨⟨⟨h0, h1⟩, _⟩, _⟩ := h
  refine ⟨h1, ?_⟩
  unfold allCh at h0
  rw [List.all_eq_true] at h0
  have := h0 0 (List.mem_range.2 (by omega))
  have hl : lowB (byteAt n 0) = true := by simpa [symCh] using this
  rw [lowB_iff] at hl
  rw [Bool.eq_false_iff]; intro e
  rw [upB_iff] at e
  omega
theorem varName_no {n : ByteArray} (h : upB (byteAt n 0) = false) : varName n = false := by
  rw [Bool.eq_false_iff]; intro e
  rw [(varName_first e).2] at h
  exact absurd h (by simp)
theorem Tm.names_nice (t : Tm) : t.names = true → t.nice = true := by
  refine Tm.ind (P := fun t => t.names = true → t.nice = true) (fun n ts ih h => ?_) t
  rw [Tm.nice_iff]
  simp only [Tm.name, Tm.args]
  rw [Tm.names] at h
  split at h
  · rename_i hv
    have := varName_first hv
    refine ⟨this.1, by rw [this.2, hv], ?_⟩
    cases ts
    · simp
    · simp at h
  · simp only [Bool.and_eq_true] at h
    have := symName_first h.1.1
    exact ⟨this.1, by rw [this.2, varName_no this.2], fun a ha => ih a ha ((Tm.namesAll_iff ts).1 h.2 a ha)⟩
theorem Tm.expr_nice {t : Tm} (h : t.expr = true) : t.nice = true := by
  rw [Tm.expr] at h
  rcases Bool.or_eq_true_iff.1 h with h | h
  · rw [Tm.valid, Bool.and_eq_true] at h
    exact Tm.names_nice t h.2
  · rw [Tm.atom_eq] at h
    split at h
    · rename_i he
      simp only [Bool.and_eq_true] at h
      rw [Tm.nice_iff, he]
      have hu : upB (byteAt eqSign 0) = false := by decide
      exact ⟨by decide, by rw [hu, varName_no hu], fun a ha => Tm.names_nice a ((Tm.namesAll_iff t.args).1 h.2 a ha)⟩
    · rw [Bool.and_eq_true, Tm.valid, Bool.and_eq_true] at h
      exact Tm.names_nice t h.2.2
end Go.Proofs.YtooocakkjdhfiaaDoor
