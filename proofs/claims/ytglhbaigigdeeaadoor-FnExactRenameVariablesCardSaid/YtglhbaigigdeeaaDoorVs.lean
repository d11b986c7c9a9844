/- Lists of names: a name is put into its place; the names of variables of a term. Plain. -/
import Derived.Test.YtglhbaigigdeeaaDoorTp
import Derived.Test.YtglhbaigigdeeaaDoorOrd
namespace Go.Proofs.YtglhbaigigdeeaaDoor
set_option maxRecDepth 100000
open Go.RowKit

/-- a name is put into an ascending list, unless it is there -/
def putStr : List ByteArray → ByteArray → List ByteArray
  | [], s => [s]
  | x :: l, s => if Op.bytesLess x.toList s.toList = true then x :: putStr l s else if x = s then x :: l else s :: x :: l

theorem putStr_mem (l : List ByteArray) (s m : ByteArray) : m ∈ putStr l s ↔ m = s ∨ m ∈ l := by
  induction l with
  | nil => simp [putStr]
  | cons x l ih =>
    rw [putStr]
    split
    · simp only [List.mem_cons, ih]
      constructor
      · rintro (h | h | h)
        · exact .inr (.inl h)
        · exact .inl h
        · exact .inr (.inr h)
      · rintro (h | h | h)
        · exact .inr (.inl h)
        · exact .inl h
        · exact .inr (.inr h)
    · split
      · rename_i h; subst h; simp
      · simp
theorem putStr_length (l : List ByteArray) (s : ByteArray) : (putStr l s).length ≤ l.length + 1 := by
  induction l with
  | nil => simp [putStr]
  | cons x l ih =>
    rw [putStr]
    split
    · simp; omega
    · split <;> simp
theorem putStr_there {l : List ByteArray} {s : ByteArray} {i : Nat} (hi : i < l.length) (hlt : ∀ j (h : j < i), Op.bytesLess (l[j]'(by omega)).toList s.toList = true) (hge : Op.bytesLess l[i].toList s.toList = false) (he : l[i] = s) : putStr l s = l := by
  induction l generalizing i with
  | nil => exact absurd hi (by simp)
  | cons x l ih =>
    cases i with
    | zero =>
      have hge' : Op.bytesLess x.toList s.toList = false := hge
      have he' : x = s := he
      rw [putStr, if_neg (by rw [hge']; simp), if_pos he']
    | succ i =>
      have h0 : Op.bytesLess x.toList s.toList = true := hlt 0 (by omega)
      rw [putStr, if_pos h0, ih (by simpa using hi) (fun j h => hlt (j + 1) (by omega)) hge he]
theorem putStr_new {l : List ByteArray} {s : ByteArray} {i : Nat} (hi : i ≤ l.length) (hlt : ∀ j (h : j < i), Op.bytesLess (l[j]'(by omega)).toList s.toList = true) (hge : ∀ h : i < l.length, Op.bytesLess l[i].toList s.toList = false ∧ l[i] ≠ s) : putStr l s = l.take i ++ [s] ++ l.drop i := by
  induction l generalizing i with
  | nil => simp [putStr]
  | cons x l ih =>
    cases i with
    | zero =>
      obtain ⟨h1, h2⟩ := hge (by simp)
      have h1' : Op.bytesLess x.toList s.toList = false := h1
      have h2' : x ≠ s := h2
      rw [putStr, if_neg (by rw [h1']; simp), if_neg h2']; simp
    | succ i =>
      have h0 : Op.bytesLess x.toList s.toList = true := hlt 0 (by omega)
      rw [putStr, if_pos h0, ih (by simpa using hi) (fun j h => hlt (j + 1) (by omega)) (fun h => hge (by simpa using h))]
      simp

mutual
/-- the names of a term's variables are put into a list -/
def Tm.into : Tm → List ByteArray → List ByteArray
  | .node n ts, l => if varName n = true then putStr l n else Tm.intos ts l
def Tm.intos : List Tm → List ByteArray → List ByteArray
  | [], l => l
  | t :: ts, l => Tm.intos ts (Tm.into t l)
end
mutual
/-- does the variable occur? -/
def Tm.hasVar (m : ByteArray) : Tm → Prop
  | .node n ts => if varName n = true then n = m else Tm.haveVar m ts
def Tm.haveVar (m : ByteArray) : List Tm → Prop
  | [] => False
  | t :: ts => Tm.hasVar m t ∨ Tm.haveVar m ts
end
theorem Tm.intos_take (ts : List Tm) (l : List ByteArray) (k : Nat) (hk : k < ts.length) : Tm.intos (ts.take (k + 1)) l = Tm.into ts[k] (Tm.intos (ts.take k) l) := by
  induction ts generalizing l k with
  | nil => exact absurd hk (by simp)
  | cons t ts ih =>
    cases k with
    | zero => simp [Tm.intos]
    | succ k => simpa [Tm.intos] using ih (Tm.into t l) k (by simpa using hk)
theorem Tm.into_mem (m : ByteArray) (t : Tm) : ∀ l, m ∈ Tm.into t l ↔ m ∈ l ∨ Tm.hasVar m t := by
  refine Tm.ind (P := fun t => ∀ l, m ∈ Tm.into t l ↔ m ∈ l ∨ Tm.hasVar m t) (fun n ts ih l => ?_) t
  rw [Tm.into, Tm.hasVar]
  split
  · rw [putStr_mem, or_comm, @eq_comm _ m n]
  · have key : ∀ ts : List Tm, (∀ a ∈ ts, ∀ l, m ∈ Tm.into a l ↔ m ∈ l ∨ Tm.hasVar m a) → ∀ l, m ∈ Tm.intos ts l ↔ m ∈ l ∨ Tm.haveVar m ts := by
      intro ts
      induction ts with
      | nil => intro _ l; simp [Tm.intos, Tm.haveVar]
      | cons t ts iht =>
        intro h l
        rw [Tm.intos, Tm.haveVar, iht (fun a ha => h a (by simp [ha])), h t (by simp), or_assoc]
    exact key ts ih l
theorem Tm.into_length (t : Tm) : ∀ l, (Tm.into t l).length ≤ l.length + t.size := by
  refine Tm.ind (P := fun t => ∀ l, (Tm.into t l).length ≤ l.length + t.size) (fun n ts ih l => ?_) t
  rw [Tm.into, Tm.size]
  split
  · have := putStr_length l n; omega
  · have key : ∀ ts : List Tm, (∀ a ∈ ts, ∀ l, (Tm.into a l).length ≤ l.length + a.size) → ∀ l, (Tm.intos ts l).length ≤ l.length + Tm.sizes ts := by
      intro ts
      induction ts with
      | nil => intro _ l; simp [Tm.intos]
      | cons t ts iht =>
        intro h l
        have h0 := h t (by simp) l
        have h1 := iht (fun a ha => h a (by simp [ha])) (Tm.into t l)
        rw [Tm.intos, Tm.sizes]; omega
    have := key ts ih l
    omega
theorem Tm.intos_length (ts : List Tm) : ∀ l, (Tm.intos ts l).length ≤ l.length + Tm.sizes ts := by
  induction ts with
  | nil => intro l; simp [Tm.intos]
  | cons t ts iht =>
    intro l
    have h0 := Tm.into_length t l
    have h1 := iht (Tm.into t l)
    rw [Tm.intos, Tm.sizes]; omega
end Go.Proofs.YtglhbaigigdeeaaDoor
