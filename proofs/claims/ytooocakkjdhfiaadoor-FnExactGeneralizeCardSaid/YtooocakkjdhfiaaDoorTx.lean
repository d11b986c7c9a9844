/- The texts of expressions. Plain. -/
import Derived.Test.YtooocakkjdhfiaaDoorTp
import Derived.Lib.Join
import Derived.Laws.Concat
namespace Go.Proofs.YtooocakkjdhfiaaDoor
set_option maxRecDepth 100000
open Go.RowKit

/-- bytes as a string -/
def bs (l : List UInt8) : ByteArray := ⟨l.toArray⟩
theorem bs_append (a b : List UInt8) : bs a ++ bs b = bs (a ++ b) := ByteArray.mk_append_mk a b
theorem bs_of (s : ByteArray) : bs s.data.toList = s := by cases s; simp [bs]
theorem bs_size (l : List UInt8) : (bs l).size = l.length := by simp [bs, ByteArray.size]
theorem bs_left (s : ByteArray) (l : List UInt8) : s ++ bs l = bs (s.data.toList ++ l) := by rw [← bs_append, bs_of]
theorem bs_mk (a : Array UInt8) : (⟨a⟩ : ByteArray) = bs a.toList := by simp [bs]
theorem bs_list (l : List UInt8) : (bs l).data.toList = l := by simp [bs]

theorem join_snoc (xs : List (List UInt8)) (y sep : List UInt8) : Lib.join (xs ++ [y]) sep = if xs = [] then y else Lib.join xs sep ++ sep ++ y := by
  cases xs with
  | nil => simp [Lib.join_one]
  | cons x r => rw [if_neg (by simp), List.cons_append, Lib.join_cons, Lib.join_cons]; simp [Lib.joinTail, List.append_assoc]
theorem join_length (xs : List (List UInt8)) (sep : List UInt8) : (Lib.join xs sep).length ≤ Lib.lens xs + xs.length * sep.length := by
  cases xs with
  | nil => simp [Lib.join_nil]
  | cons x r =>
    rw [Lib.join_cons]
    have : (Lib.joinTail sep r).length = Lib.lens r + r.length * sep.length := by
      induction r with
      | nil => simp [Lib.joinTail, Lib.lens]
      | cons y r ih => simp only [Lib.joinTail, List.map_cons, List.flatten_cons, List.length_append, Lib.lens, List.sum_cons, List.length_cons] at ih ⊢; rw [ih, Nat.add_mul]; omega
    simp only [List.length_append, this, Lib.lens, List.map_cons, List.sum_cons, List.length_cons, Nat.add_mul]; omega

/-- a node's text out of its arguments' -/
def textOf (n : ByteArray) (xs : List (List UInt8)) : List UInt8 :=
  if n = eqSign then xs.getD 0 [] ++ [32, 61, 32] ++ xs.getD 1 [] else if xs = [] then n.data.toList else n.data.toList ++ [40] ++ Lib.join xs [44] ++ [41]
mutual
def Tm.text : Tm → List UInt8
  | .node n ts => textOf n (Tm.texts ts)
def Tm.texts : List Tm → List (List UInt8)
  | [] => []
  | t :: ts => Tm.text t :: Tm.texts ts
end
theorem Tm.texts_map (ts : List Tm) : Tm.texts ts = ts.map Tm.text := by
  induction ts with
  | nil => rfl
  | cons t ts ih => rw [Tm.texts, ih]; rfl
theorem Tm.texts_length (ts : List Tm) : (Tm.texts ts).length = ts.length := by rw [Tm.texts_map, List.length_map]
theorem Tm.texts_take_succ (ts : List Tm) (k : Nat) (hk : k < ts.length) : Tm.texts (ts.take (k + 1)) = Tm.texts (ts.take k) ++ [ts[k].text] := by
  rw [Tm.texts_map, Tm.texts_map, List.take_succ_eq_append_getElem hk, List.map_append]; rfl

theorem Tm.text_lens (t : Tm) : t.text.length ≤ t.bulk + 3 * t.size := by
  refine Tm.ind (P := fun t => t.text.length ≤ t.bulk + 3 * t.size) (fun n ts ih => ?_) t
  have key : ∀ ts : List Tm, (∀ a ∈ ts, a.text.length ≤ a.bulk + 3 * a.size) → Lib.lens (Tm.texts ts) ≤ Tm.bulks ts + 3 * Tm.sizes ts := by
    intro ts
    induction ts with
    | nil => intro _; simp [Tm.texts, Lib.lens]
    | cons t ts iht =>
      intro h
      have h0 := h t (by simp)
      have h1 := iht fun a ha => h a (by simp [ha])
      simp only [Lib.lens, Tm.texts, List.map_cons, List.sum_cons, Tm.bulks, Tm.sizes] at h1 ⊢; omega
  have hk := key ts ih
  have hl := Tm.texts_length ts
  rw [Tm.text, Tm.bulk, Tm.size, textOf]
  have hj := join_length (Tm.texts ts) [44]
  have hg : ∀ xs : List (List UInt8), (xs.getD 0 []).length + (xs.getD 1 []).length ≤ Lib.lens xs := by
    intro xs
    match xs with
    | [] => simp
    | [x] => simp [Lib.lens]
    | x :: y :: r => simp [Lib.lens]
  have hg' := hg (Tm.texts ts)
  have hns : n.data.toList.length = n.size := rfl
  split
  · simp only [List.length_append, List.length_cons, List.length_nil]; omega
  · split
    · omega
    · simp only [List.length_append, List.length_cons, List.length_nil] at hj ⊢; omega
/-- the text of an expression is short -/
theorem Tm.text_le (t : Tm) (h : t.bulk ≤ 1048576) : t.text.length ≤ 4194307 := by
  have := Tm.text_lens t; have := Tm.size_bulk t; omega

/-- behind k arguments -/
def opened (xs : List (List UInt8)) : List UInt8 := if xs = [] then [] else [40] ++ Lib.join xs [44]
theorem opened_nil : opened [] = [] := rfl
theorem opened_snoc (xs : List (List UInt8)) (y : List UInt8) : opened (xs ++ [y]) = opened xs ++ (if xs = [] then [40] else [44]) ++ y := by
  rw [opened, if_neg (by simp), join_snoc, opened]
  split
  · simp
  · simp [List.append_assoc]
theorem textOf_eq {n : ByteArray} (h : n = eqSign) {xs : List (List UInt8)} {a b : List UInt8} (hx : xs = [a, b]) : textOf n xs = a ++ [32, 61, 32] ++ b := by
  subst hx; rw [textOf, if_pos h]; rfl
theorem textOf_none {n : ByteArray} (h : n ≠ eqSign) : textOf n [] = n.data.toList := by rw [textOf, if_neg h, if_pos rfl]
theorem textOf_some {n : ByteArray} (h : n ≠ eqSign) {xs : List (List UInt8)} (hx : xs ≠ []) : textOf n xs = n.data.toList ++ opened xs ++ [41] := by
  rw [textOf, if_neg h, if_neg hx, opened, if_neg hx]; simp [List.append_assoc]
theorem textOf_join {n : ByteArray} (h : n ≠ eqSign) {xs : List (List UInt8)} (hx : xs ≠ []) : textOf n xs = n.data.toList ++ [40] ++ Lib.join xs [44] ++ [41] := by
  rw [textOf, if_neg h, if_neg hx]

mutual
/-- an equality has two sides -/
def Tm.sides : Tm → Prop
  | .node n ts => (n = eqSign → ts.length = 2) ∧ Tm.sidesAll ts
def Tm.sidesAll : List Tm → Prop
  | [] => True
  | t :: ts => Tm.sides t ∧ Tm.sidesAll ts
end
theorem Tm.sidesAll_iff (ts : List Tm) : Tm.sidesAll ts ↔ ∀ t ∈ ts, Tm.sides t := by
  induction ts with
  | nil => simp [Tm.sidesAll]
  | cons t ts ih => simp [Tm.sidesAll, ih]
theorem varName_eq : varName eqSign = false := by decide
theorem symName_eq : symName eqSign = false := by decide
theorem Tm.names_sides (t : Tm) : t.names = true → t.sides := by
  refine Tm.ind (P := fun t => t.names = true → t.sides) (fun n ts ih h => ?_) t
  rw [Tm.names] at h
  rw [Tm.sides, Tm.sidesAll_iff]
  by_cases hv : varName n = true
  · rw [if_pos hv] at h
    have : ts = [] := by simpa using h
    subst this
    exact ⟨fun e => by rw [e, varName_eq] at hv; exact absurd hv (by simp), by simp⟩
  · rw [if_neg hv] at h
    simp only [Bool.and_eq_true] at h
    refine ⟨fun e => ?_, fun t ht => ih t ht ((Tm.namesAll_iff ts).1 h.2 t ht)⟩
    rw [e, symName_eq] at h
    exact absurd h.1.1 (by simp)
end Go.Proofs.YtooocakkjdhfiaaDoor
