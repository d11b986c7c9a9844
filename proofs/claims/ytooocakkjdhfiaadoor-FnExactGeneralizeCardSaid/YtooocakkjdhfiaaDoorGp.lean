/- Terms are generalized: plain. -/
import Derived.Test.YtooocakkjdhfiaaDoorTv
import Derived.Test.YtooocakkjdhfiaaDoorTp
import Derived.Test.YtooocakkjdhfiaaDoorNw
namespace Go.Proofs.YtooocakkjdhfiaaDoor
set_option maxRecDepth 100000
open Go.RowKit

/-- a letter before a number -/
def numN (c : UInt8) (i : Nat) : ByteArray := ⟨#[c]⟩ ++ itoaB (i : Int)
theorem size_append (a b : ByteArray) : (a ++ b).size = a.size + b.size := ByteArray.size_append
theorem numN_size (c : UInt8) {i : Nat} (h : i ≤ 999999) : 2 ≤ (numN c i).size ∧ (numN c i).size ≤ 8 := by
  have := itoaB_size (n := (i : Int)) (by omega) (by omega)
  rw [numN, size_append]
  show 2 ≤ 1 + _ ∧ 1 + _ ≤ 8
  omega
abbrev Pr := Tm × Tm
def eqP (x : Pr) (t u : Tm) : Bool := Tm.eqb x.1 t && Tm.eqb x.2 u
/-- where a pair stands; the length of the list if nowhere -/
def idxP : List Pr → Tm → Tm → Nat
  | [], _, _ => 0
  | x :: l, t, u => if eqP x t u = true then 0 else idxP l t u + 1
theorem idxP_le : ∀ (l : List Pr) (t u : Tm), idxP l t u ≤ l.length
  | [], _, _ => by simp [idxP]
  | x :: l, t, u => by
    rw [idxP]
    split
    · omega
    · have := idxP_le l t u
      simp; omega
theorem idxP_at : ∀ {l : List Pr} {t u : Tm} {k : Nat}, k ≤ l.length → (∀ j (h : j < l.length), j < k → eqP l[j] t u = false) → (∀ h : k < l.length, eqP l[k] t u = true) → idxP l t u = k
  | [], t, u, k, h, _, _ => by simp at h; subst h; rfl
  | x :: l, t, u, 0, _, _, h2 => by
    have : eqP x t u = true := h2 (by simp)
    rw [idxP, if_pos this]
  | x :: l, t, u, k + 1, h, h1, h2 => by
    have h0 : eqP x t u = false := h1 0 (by simp) (by omega)
    rw [idxP, if_neg (by rw [h0]; decide), idxP_at (by simpa using h) (fun j hj hk => by have := h1 (j + 1) (by simpa using hj) (by omega); simpa using this) (fun hk => by have := h2 (by simpa using hk); simpa using this)]
/-- the pairs with one more, if it is new -/
def addP (l : List Pr) (t u : Tm) : List Pr := if idxP l t u < l.length then l else l ++ [(t, u)]
theorem addP_length (l : List Pr) (t u : Tm) : l.length ≤ (addP l t u).length ∧ (addP l t u).length ≤ l.length + 1 := by
  unfold addP; split <;> simp
def genVar (l : List Pr) (t u : Tm) : Tm := .node (numN 71 (idxP l t u)) []
mutual
/-- what two terms have in common; l: the pairs that are known -/
def Tm.gen : Tm → Tm → List Pr → Tm × List Pr
  | .node n ts, u, l =>
    if varName n = false ∧ n = u.name ∧ ts.length = u.args.length then (.node n (Tm.gens ts u.args l).1, (Tm.gens ts u.args l).2)
    else (genVar l (.node n ts) u, addP l (.node n ts) u)
def Tm.gens : List Tm → List Tm → List Pr → List Tm × List Pr
  | [], _, l => ([], l)
  | _ :: _, [], l => ([], l)
  | t :: ts, u :: us, l => ((Tm.gen t u l).1 :: (Tm.gens ts us (Tm.gen t u l).2).1, (Tm.gens ts us (Tm.gen t u l).2).2)
end
theorem Tm.gen_in {t u : Tm} (l : List Pr) (h : varName t.name = false) (hn : t.name = u.name) (hl : t.args.length = u.args.length) : Tm.gen t u l = (.node t.name (Tm.gens t.args u.args l).1, (Tm.gens t.args u.args l).2) := by
  cases t; rw [Tm.gen, if_pos ⟨h, hn, hl⟩]; rfl
theorem Tm.gen_out {t u : Tm} (l : List Pr) (h : ¬ (varName t.name = false ∧ t.name = u.name ∧ t.args.length = u.args.length)) : Tm.gen t u l = (genVar l t u, addP l t u) := by
  cases t; rw [Tm.gen]; exact if_neg h
theorem Tm.gens_take : ∀ (ts us : List Tm) (l : List Pr) (k : Nat) (h : k < ts.length) (h' : k < us.length), Tm.gens (ts.take (k + 1)) us l = ((Tm.gens (ts.take k) us l).1 ++ [(Tm.gen ts[k] us[k] (Tm.gens (ts.take k) us l).2).1], (Tm.gen ts[k] us[k] (Tm.gens (ts.take k) us l).2).2)
  | [], _, _, _, h, _ => absurd h (by simp)
  | _ :: _, [], _, _, _, h => absurd h (by simp)
  | t :: ts, u :: us, l, 0, _, _ => by simp [Tm.gens]
  | t :: ts, u :: us, l, k + 1, h, h' => by
    simp only [List.take_succ_cons, Tm.gens, List.getElem_cons_succ]
    rw [Tm.gens_take ts us _ k (by simpa using h) (by simpa using h')]
    simp
/-- sizes -/
theorem Tm.gens_sizes : ∀ (ts us : List Tm) (l : List Pr), (∀ a ∈ ts, ∀ u l, l.length ≤ (Tm.gen a u l).2.length ∧ (Tm.gen a u l).2.length ≤ l.length + a.size ∧ (Tm.gen a u l).1.size ≤ a.size) → l.length ≤ (Tm.gens ts us l).2.length ∧ (Tm.gens ts us l).2.length ≤ l.length + Tm.sizes ts ∧ Tm.sizes (Tm.gens ts us l).1 ≤ Tm.sizes ts
  | [], _, l, _ => by simp [Tm.gens, Tm.sizes]
  | _ :: _, [], l, _ => by simp [Tm.gens, Tm.sizes]
  | t :: ts, u :: us, l, h => by
    have h1 := h t (by simp) u l
    have h2 := Tm.gens_sizes ts us (Tm.gen t u l).2 fun a ha => h a (by simp [ha])
    simp only [Tm.gens, Tm.sizes]
    omega
theorem Tm.gen_sizes (t : Tm) : ∀ (u : Tm) (l : List Pr), l.length ≤ (Tm.gen t u l).2.length ∧ (Tm.gen t u l).2.length ≤ l.length + t.size ∧ (Tm.gen t u l).1.size ≤ t.size := by
  refine Tm.ind (P := fun t => ∀ (u : Tm) (l : List Pr), l.length ≤ (Tm.gen t u l).2.length ∧ (Tm.gen t u l).2.length ≤ l.length + t.size ∧ (Tm.gen t u l).1.size ≤ t.size) (fun n ts ih u l => ?_) t
  rw [Tm.gen]
  split
  · have := Tm.gens_sizes ts u.args l ih
    simp only [Tm.size]
    omega
  · have := addP_length l (.node n ts) u
    rw [genVar, Tm.size, Tm.size, Tm.sizes]
    simp only
    omega
theorem Tm.gens_length : ∀ (ts us : List Tm) (l : List Pr), ts.length = us.length → (Tm.gens ts us l).1.length = ts.length
  | [], _, _, _ => by simp [Tm.gens]
  | _ :: _, [], _, h => by simp at h
  | t :: ts, u :: us, l, h => by
    rw [Tm.gens]
    simp [Tm.gens_length ts us _ (by simpa using h)]
theorem Tm.gens_bulks : ∀ (ts us : List Tm) (l : List Pr), (∀ a ∈ ts, ∀ u l, l.length + a.size ≤ 999999 → (Tm.gen a u l).1.bulk ≤ a.bulk + 8 * a.size) → l.length + Tm.sizes ts ≤ 999999 → Tm.bulks (Tm.gens ts us l).1 ≤ Tm.bulks ts + 8 * Tm.sizes ts
  | [], _, l, _, _ => by simp [Tm.gens, Tm.bulks]
  | _ :: _, [], l, _, _ => by simp [Tm.gens, Tm.bulks]
  | t :: ts, u :: us, l, h, hl => by
    rw [Tm.sizes] at hl
    have h1 := h t (by simp) u l (by omega)
    have h3 := Tm.gen_sizes t u l
    have h2 := Tm.gens_bulks ts us (Tm.gen t u l).2 (fun a ha => h a (by simp [ha])) (by omega)
    simp only [Tm.gens, Tm.bulks, Tm.sizes]
    omega
theorem Tm.gens_le : ∀ (ts us : List Tm) (l : List Pr), (Tm.gens ts us l).1.length ≤ ts.length
  | [], _, _ => by simp [Tm.gens]
  | _ :: _, [], _ => by simp [Tm.gens]
  | t :: ts, u :: us, l => by
    rw [Tm.gens]
    have := Tm.gens_le ts us (Tm.gen t u l).2
    simp only [List.length_cons]
    omega
theorem Tm.gen_bulk (t : Tm) : ∀ (u : Tm) (l : List Pr), l.length + t.size ≤ 999999 → (Tm.gen t u l).1.bulk ≤ t.bulk + 8 * t.size := by
  refine Tm.ind (P := fun t => ∀ (u : Tm) (l : List Pr), l.length + t.size ≤ 999999 → (Tm.gen t u l).1.bulk ≤ t.bulk + 8 * t.size) (fun n ts ih u l hl => ?_) t
  rw [Tm.size] at hl
  rw [Tm.gen]
  split
  · have h1 := Tm.gens_bulks ts u.args l ih (by omega)
    have h2 := Tm.gens_le ts u.args l
    simp only [Tm.bulk, Tm.size]
    omega
  · have h0 := idxP_le l (.node n ts) u
    have h1 := numN_size 71 (i := idxP l (.node n ts) u) (by omega)
    simp only [genVar, Tm.bulk, Tm.size, Tm.bulks, List.length_nil]
    omega
end Go.Proofs.YtooocakkjdhfiaaDoor
