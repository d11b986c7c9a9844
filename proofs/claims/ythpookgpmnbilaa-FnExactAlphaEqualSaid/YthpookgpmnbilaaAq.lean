/- Terms and formulas that differ in bound names only: plain. -/
import Derived.Test.YthpookgpmnbilaaFp
import Derived.Test.YthpookgpmnbilaaCp
import Derived.Test.YthpookgpmnbilaaLf
namespace Go.Proofs.Ythpookgpmnbilaa
set_option maxRecDepth 100000
open Go.RowKit

/-- the last place of a name, or -1 -/
def lastAt : List ByteArray → ByteArray → Int
  | [], _ => -1
  | x :: xs, s => if 0 ≤ lastAt xs s then lastAt xs s + 1 else if x = s then 0 else -1
theorem lastAt_in : ∀ (ss : List ByteArray) (s : ByteArray), -1 ≤ lastAt ss s ∧ lastAt ss s < ss.length
  | [], s => by simp [lastAt]
  | x :: xs, s => by
    have ih := lastAt_in xs s
    rw [lastAt]
    simp only [List.length_cons]
    split
    · omega
    · split <;> omega
theorem lastAt_none : ∀ {ss : List ByteArray} {s : ByteArray}, (∀ j (hj : j < ss.length), ss[j] ≠ s) → lastAt ss s = -1
  | [], s, _ => rfl
  | x :: xs, s, h => by
    have ih := lastAt_none (ss := xs) (s := s) fun j hj => by have := h (j + 1) (by simpa using hj); simpa using this
    rw [lastAt, ih, if_neg (by decide), if_neg (by have := h 0 (by simp); simpa using this)]
theorem lastAt_at : ∀ {ss : List ByteArray} {s : ByteArray} {k : Nat} (hk : k < ss.length), ss[k] = s → (∀ j (hj : j < ss.length), k < j → ss[j] ≠ s) → lastAt ss s = k
  | [], _, _, hk, _, _ => absurd hk (by simp)
  | x :: xs, s, 0, _, he, hn => by
    have := lastAt_none (ss := xs) (s := s) fun j hj => by have := hn (j + 1) (by simpa using hj) (by omega); simpa using this
    rw [lastAt, this, if_neg (by decide), if_pos (by simpa using he)]; rfl
  | x :: xs, s, k + 1, hk, he, hn => by
    have := lastAt_at (ss := xs) (s := s) (k := k) (by simpa using hk) (by simpa using he) fun j hj hkj => by have := hn (j + 1) (by simpa using hj) (by omega); simpa using this
    rw [lastAt, this, if_pos (by omega)]; omega

mutual
def Tm.alpha (x y : List ByteArray) : Tm → Tm → Bool
  | .node n ts, .node m us => if (varName n && varName m) = true then decide (lastAt x n = lastAt y m) && (decide (0 ≤ lastAt x n) || decide (n = m)) else decide (n = m) && Tm.alphas x y ts us
def Tm.alphas (x y : List ByteArray) : List Tm → List Tm → Bool
  | [], [] => true
  | t :: ts, u :: us => Tm.alpha x y t u && Tm.alphas x y ts us
  | _, _ => false
end
theorem Tm.alpha_eq (x y : List ByteArray) (t u : Tm) : Tm.alpha x y t u = if (varName t.name && varName u.name) = true then decide (lastAt x t.name = lastAt y u.name) && (decide (0 ≤ lastAt x t.name) || decide (t.name = u.name)) else decide (t.name = u.name) && Tm.alphas x y t.args u.args := by
  cases t; cases u; rw [Tm.alpha]; rfl
theorem Tm.alphas_iff (x y : List ByteArray) : ∀ (ts us : List Tm), Tm.alphas x y ts us = true ↔ ts.length = us.length ∧ ∀ k (h : k < ts.length) (h' : k < us.length), Tm.alpha x y ts[k] us[k] = true
  | [], [] => by simp [Tm.alphas]
  | [], _ :: _ => by simp [Tm.alphas]
  | _ :: _, [] => by simp [Tm.alphas]
  | t :: ts, u :: us => by
    rw [Tm.alphas, Bool.and_eq_true, Tm.alphas_iff x y ts us]
    constructor
    · rintro ⟨h0, h1, h2⟩
      refine ⟨by simp [h1], fun k h h' => ?_⟩
      cases k with
      | zero => exact h0
      | succ k => simpa using h2 k (by simpa using h) (by simpa using h')
    · rintro ⟨h1, h2⟩
      exact ⟨h2 0 (by simp) (by simp), by simpa using h1, fun k h h' => by have := h2 (k + 1) (by simpa using h) (by simpa using h'); simpa using this⟩
theorem Tm.alphas_len {x y : List ByteArray} {ts us : List Tm} (h : ts.length ≠ us.length) : Tm.alphas x y ts us = false := by
  rw [Bool.eq_false_iff]; intro e; exact h ((Tm.alphas_iff _ _ _ _).1 e).1
theorem Tm.alphas_at {x y : List ByteArray} {ts us : List Tm} {k : Nat} (h1 : k < ts.length) (h2 : k < us.length) (h : Tm.alpha x y ts[k] us[k] = false) : Tm.alphas x y ts us = false := by
  rw [Bool.eq_false_iff]; intro e; have := ((Tm.alphas_iff _ _ _ _).1 e).2 k h1 h2; rw [h] at this; cases this
mutual
def Fm.alpha : Fm → Fm → List ByteArray → List ByteArray → Bool
  | .node o a v ps, .node p b u qs, x, y => if o = p then (if o = 3 then Tm.alpha x y a b else if quantOp o = true then Fm.alphas ps qs (x ++ [v]) (y ++ [u]) else Fm.alphas ps qs x y) else false
def Fm.alphas : List Fm → List Fm → List ByteArray → List ByteArray → Bool
  | [], [], _, _ => true
  | t :: ts, u :: us, x, y => Fm.alpha t u x y && Fm.alphas ts us x y
  | _, _, _, _ => false
end
theorem Fm.alpha_eq (t u : Fm) (x y : List ByteArray) : Fm.alpha t u x y = if t.op = u.op then (if t.op = 3 then Tm.alpha x y t.atom u.atom else if quantOp t.op = true then Fm.alphas t.parts u.parts (x ++ [t.v]) (y ++ [u.v]) else Fm.alphas t.parts u.parts x y) else false := by
  cases t; cases u; rw [Fm.alpha]; rfl
theorem Fm.alphas_iff (x y : List ByteArray) : ∀ (ts us : List Fm), Fm.alphas ts us x y = true ↔ ts.length = us.length ∧ ∀ k (h : k < ts.length) (h' : k < us.length), Fm.alpha ts[k] us[k] x y = true
  | [], [] => by simp [Fm.alphas]
  | [], _ :: _ => by simp [Fm.alphas]
  | _ :: _, [] => by simp [Fm.alphas]
  | t :: ts, u :: us => by
    rw [Fm.alphas, Bool.and_eq_true, Fm.alphas_iff x y ts us]
    constructor
    · rintro ⟨h0, h1, h2⟩
      refine ⟨by simp [h1], fun k h h' => ?_⟩
      cases k with
      | zero => exact h0
      | succ k => simpa using h2 k (by simpa using h) (by simpa using h')
    · rintro ⟨h1, h2⟩
      exact ⟨h2 0 (by simp) (by simp), by simpa using h1, fun k h h' => by have := h2 (k + 1) (by simpa using h) (by simpa using h'); simpa using this⟩
theorem Fm.alphas_at {x y : List ByteArray} {ts us : List Fm} {k : Nat} (h1 : k < ts.length) (h2 : k < us.length) (h : Fm.alpha ts[k] us[k] x y = false) : Fm.alphas ts us x y = false := by
  rw [Bool.eq_false_iff]; intro e; have := ((Fm.alphas_iff _ _ _ _).1 e).2 k h1 h2; rw [h] at this; cases this
def Fm.alphaR (t u : Fm) : Bool := t.valid && u.valid && Fm.alpha t u [] []
/-- formulas of one form have as many parts -/
theorem Fm.parts_same {t u : Fm} (ht : t.forms = true) (hu : u.forms = true) (h : t.op = u.op) : t.parts.length = u.parts.length := by
  rw [Fm.forms_eq, Bool.and_eq_true] at ht hu
  have h1 := ht.1; have h2 := hu.1
  unfold Fm.form at h1 h2
  simp only [Bool.and_eq_true, decide_eq_true_eq] at h1 h2
  have e1 := h1.1.1; have e2 := h2.1.1
  rw [h, e2] at e1
  injection e1 with e1
  exact e1.symm
end Go.Proofs.Ythpookgpmnbilaa
