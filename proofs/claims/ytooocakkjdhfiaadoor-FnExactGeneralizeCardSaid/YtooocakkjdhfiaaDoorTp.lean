/- Terms, plain: size, depth, names. -/
import Derived.Test.YtooocakkjdhfiaaDoorTm
import Derived.Test.YtooocakkjdhfiaaDoorCh
namespace Go.Proofs.YtooocakkjdhfiaaDoor
set_option maxRecDepth 100000
open Go.RowKit
mutual
def Tm.size : Tm → Nat
  | .node _ ts => 1 + Tm.sizes ts
def Tm.sizes : List Tm → Nat
  | [] => 0
  | t :: ts => Tm.size t + Tm.sizes ts
end
mutual
def Tm.depth : Tm → Nat
  | .node _ ts => Tm.depths ts + 1
def Tm.depths : List Tm → Nat
  | [] => 0
  | t :: ts => max (Tm.depth t) (Tm.depths ts)
end
mutual
/-- all nodes have valid names and as many arguments as they may have -/
def Tm.names : Tm → Bool
  | .node n ts => if varName n then ts.isEmpty else symName n && decide (ts.length ≤ 4) && Tm.namesAll ts
def Tm.namesAll : List Tm → Bool
  | [] => true
  | t :: ts => Tm.names t && Tm.namesAll ts
end

theorem Tm.sizes_take : ∀ (ts : List Tm) (k : Nat) (hk : k < ts.length), Tm.sizes (ts.take (k + 1)) = Tm.sizes (ts.take k) + ts[k].size
  | [], k, hk => absurd hk (by simp)
  | t :: ts, 0, _ => by simp [Tm.sizes]
  | t :: ts, k + 1, hk => by
    have := Tm.sizes_take ts k (by simpa using hk)
    simp only [List.take_succ_cons, Tm.sizes, this, List.getElem_cons_succ]; omega
theorem Tm.sizes_le : ∀ (ts : List Tm) (k : Nat), Tm.sizes (ts.take k) ≤ Tm.sizes ts
  | [], k => by simp
  | t :: ts, 0 => by simp [Tm.sizes]
  | t :: ts, k + 1 => by
    have := Tm.sizes_le ts k
    simp only [List.take_succ_cons, Tm.sizes]; omega
theorem Tm.depths_take : ∀ (ts : List Tm) (k : Nat) (hk : k < ts.length), Tm.depths (ts.take (k + 1)) = max (Tm.depths (ts.take k)) ts[k].depth
  | [], k, hk => absurd hk (by simp)
  | t :: ts, 0, _ => by simp [Tm.depths]
  | t :: ts, k + 1, hk => by
    have := Tm.depths_take ts k (by simpa using hk)
    simp only [List.take_succ_cons, Tm.depths, this, List.getElem_cons_succ]; omega
theorem Tm.namesAll_iff : ∀ ts : List Tm, Tm.namesAll ts = true ↔ ∀ t ∈ ts, Tm.names t = true
  | [] => by simp [Tm.namesAll]
  | t :: ts => by simp [Tm.namesAll, Tm.namesAll_iff ts]
theorem Tm.namesAll_no {ts : List Tm} {t : Tm} (h : t ∈ ts) (hn : Tm.names t = false) : Tm.namesAll ts = false := by
  rw [Bool.eq_false_iff]; intro e
  rw [(Tm.namesAll_iff ts).1 e t h] at hn
  exact absurd hn (by simp)
theorem Tm.namesAll_take : ∀ (ts : List Tm) (k : Nat) (hk : k < ts.length), Tm.namesAll (ts.take (k + 1)) = (Tm.namesAll (ts.take k) && Tm.names ts[k])
  | [], k, hk => absurd hk (by simp)
  | t :: ts, 0, _ => by simp [Tm.namesAll]
  | t :: ts, k + 1, hk => by
    have := Tm.namesAll_take ts k (by simpa using hk)
    simp only [List.take_succ_cons, Tm.namesAll, this, List.getElem_cons_succ, Bool.and_assoc]

/-- the size and the depth are no more than the bulk and one -/
theorem Tm.size_bulk (t : Tm) : t.size ≤ t.bulk + 1 := by
  refine Tm.ind (P := fun t => t.size ≤ t.bulk + 1) (fun n ts ih => ?_) t
  rw [Tm.size, Tm.bulk]
  have key : ∀ ts : List Tm, (∀ a ∈ ts, a.size ≤ a.bulk + 1) → Tm.sizes ts ≤ Tm.bulks ts + ts.length := by
    intro ts
    induction ts with
    | nil => intro _; simp [Tm.sizes]
    | cons t ts iht =>
      intro h
      have h0 := h t (by simp)
      have h1 := iht fun a ha => h a (by simp [ha])
      simp only [Tm.sizes, Tm.bulks, List.length_cons]; omega
  have := key ts ih
  omega
theorem Tm.depth_size (t : Tm) : t.depth ≤ t.size := by
  refine Tm.ind (P := fun t => t.depth ≤ t.size) (fun n ts ih => ?_) t
  rw [Tm.size, Tm.depth]
  have key : ∀ ts : List Tm, (∀ a ∈ ts, a.depth ≤ a.size) → Tm.depths ts ≤ Tm.sizes ts := by
    intro ts
    induction ts with
    | nil => intro _; simp [Tm.depths]
    | cons t ts iht =>
      intro h
      have h0 := h t (by simp)
      have h1 := iht fun a ha => h a (by simp [ha])
      simp only [Tm.depths, Tm.sizes]; omega
  have := key ts ih
  omega
theorem Tm.size_pos (t : Tm) : 0 < t.size := by cases t; rw [Tm.size]; omega

/-- r stands for s up to m: it is s, or both are greater -/
def Upto (m s r : Nat) : Prop := (s ≤ m → r = s) ∧ (m < s → m < r) ∧ r ≤ s
theorem Upto.add {m a b x y : Nat} (h : Upto m a x) (k : Upto m b y) : Upto m (a + b) (x + y) := by
  unfold Upto at *; omega
theorem Upto.le {m s r : Nat} (h : Upto m s r) : decide (r ≤ m) = decide (s ≤ m) := by
  unfold Upto at h
  rw [decide_eq_decide]; omega

/-- small: at most 30 nodes, at most 8 deep -/
def Tm.small (t : Tm) : Bool := decide (t.size ≤ 30) && decide (t.depth ≤ 8)
def Tm.valid (t : Tm) : Bool := t.small && t.names
def eqSign : ByteArray := ⟨#[61]⟩
/-- a valid atom -/
def Tm.atom : Tm → Bool
  | .node n ts => if n = eqSign then decide (ts.length = 2) && Tm.small (.node n ts) && Tm.namesAll ts else symName n && Tm.valid (.node n ts)
/-- a valid term or atom -/
def Tm.expr (t : Tm) : Bool := t.valid || t.atom
end Go.Proofs.YtooocakkjdhfiaaDoor
