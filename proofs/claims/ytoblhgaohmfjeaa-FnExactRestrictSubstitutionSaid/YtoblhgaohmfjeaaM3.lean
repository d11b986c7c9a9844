/- Marks of lists whose items have two leaves and a list of terms. -/
import Derived.Test.YtoblhgaohmfjeaaMw
namespace Go.Proofs.Ytoblhgaohmfjeaa
set_option maxRecDepth 100000
open Go.RowKit

/-- the cells of marked items, from mark k on; hd: the first cell's mark -/
def m3 (hd : Nat → D) : List (List Tm) → Nat → List D
  | [], _ => []
  | a :: us, k => hd k :: .str (bs (mtext (k + 1))) :: Tm.sd (Tm.mks a (k + 2)) :: m3 hd us (k + (2 + Tm.sizes a))
def c3 : List (List Tm) → Nat
  | [] => 0
  | a :: us => 2 + Tm.sizes a + c3 us
theorem m3_length (hd : Nat → D) : ∀ (us : List (List Tm)) (k : Nat), (m3 hd us k).length = us.length * 3
  | [], _ => rfl
  | a :: us, k => by rw [m3]; simp only [List.length_cons, m3_length hd us]; omega
theorem m3_snoc (hd : Nat → D) : ∀ (us : List (List Tm)) (a : List Tm) (k : Nat), m3 hd (us ++ [a]) k = m3 hd us k ++ [hd (k + c3 us), .str (bs (mtext (k + c3 us + 1))), Tm.sd (Tm.mks a (k + c3 us + 2))]
  | [], a, k => by simp [m3, c3]
  | b :: us, a, k => by
    rw [List.cons_append, m3, m3_snoc hd us a, m3, c3]
    simp only [List.cons_append]
    rw [show k + (2 + Tm.sizes b) + c3 us = k + (2 + Tm.sizes b + c3 us) by omega]
theorem c3_take : ∀ (us : List (List Tm)) (j : Nat) (h : j < us.length), c3 (us.take (j + 1)) = c3 (us.take j) + (2 + Tm.sizes us[j])
  | [], j, h => absurd h (by simp)
  | a :: us, 0, _ => by simp [c3]
  | a :: us, j + 1, h => by
    have := c3_take us j (by simpa using h)
    simp only [List.take_succ_cons, c3, List.getElem_cons_succ]
    rw [this]; omega
theorem c3_le : ∀ (us : List (List Tm)) (j : Nat), c3 (us.take j) ≤ c3 us
  | [], j => by simp
  | a :: us, 0 => by simp [c3]
  | a :: us, j + 1 => by
    have := c3_le us j
    simp only [List.take_succ_cons, c3]; omega
/-- what of a list lies behind j items -/
theorem drop3 {ds : List D} {n j : Nat} (hl : ds.length = n * 3) (hj : j < n) : ∃ x y z, ds.drop (j * 3) = x :: y :: z :: ds.drop ((j + 1) * 3) ∧ ds[j * 3]? = some x ∧ ds[j * 3 + 1]? = some y ∧ ds[j * 3 + 2]? = some z := by
  have h0 : j * 3 < ds.length := by omega
  have h1 : j * 3 + 1 < ds.length := by omega
  have h2 : j * 3 + 2 < ds.length := by omega
  refine ⟨ds[j * 3], ds[j * 3 + 1], ds[j * 3 + 2], ?_, List.getElem?_eq_getElem _, List.getElem?_eq_getElem _, List.getElem?_eq_getElem _⟩
  rw [List.drop_eq_getElem_cons h0, List.drop_eq_getElem_cons h1, List.drop_eq_getElem_cons h2, show j * 3 + 2 + 1 = (j + 1) * 3 by omega]
theorem set_mid {A R : List D} {x d : D} {n : Nat} (h : n = A.length) : (A ++ x :: R).set n d = A ++ d :: R := by
  subst h
  rw [List.set_append_right _ _ (Nat.le_refl _)]; simp
theorem get_mid {A R : List D} {x : D} {n : Nat} (h : n = A.length) (hl : n < (A ++ x :: R).length) : (A ++ x :: R)[n] = x := by
  subst h
  rw [List.getElem_append_right (Nat.le_refl _)]; simp
/-- a cell of owned data is there and may be written -/
theorem own_cell {w : World} {b off n cap : Nat} {ds : List D} {F : List Nat} (h : D.own w (.slice (some ⟨b, off, none⟩) n cap) (.sl n ds) F) {i : Nat} (hi : i < ds.length) : (∃ v, w.cell? ⟨b, off + i, none⟩ = some v) ∧ w.frozen? ⟨b, off + i, none⟩ = false := by
  have hne : ds ≠ [] := by intro e; subst e; simp at hi
  obtain ⟨-, b', off', F', e, rfl, hbF, hbl, hfr, ho⟩ := D.own_slice h hne
  injection e with e; injection e with e1 e2; subst e1 e2
  have hr := D.own_rd _ _ _ h
  rw [D.rd] at hr
  obtain ⟨a, c, e, _, _, _, h4⟩ := hr
  obtain ⟨b2, off2, q0, _, _, q3⟩ := h4 hne
  injection e with e0 _ _
  rw [q0] at e0
  injection e0 with e0; injection e0 with e1 e2
  subst e1 e2
  obtain ⟨v, q, _⟩ := D.rds_get q3 (List.getElem?_eq_getElem hi)
  exact ⟨⟨v, q⟩, hfr _⟩
theorem own_at {w : World} {a : Option Addr} {n m cap : Nat} {ds : List D} {F : List Nat} (h : D.own w (.slice a n cap) (.sl m ds) F) (hne : ds ≠ []) : ∃ b off F', a = some ⟨b, off, none⟩ ∧ F = b :: F' := by
  obtain ⟨-, b, off, F', e, e2, _⟩ := D.own_slice h hne
  exact ⟨b, off, F', e, e2⟩
def D.leaf : D → Prop
  | .sl _ _ => False
  | _ => True
theorem leaf_own {w : World} {v : Value} {d : D} {G : List Nat} (hd : d.leaf) (h : D.own w v d G) : G = [] := by
  cases d with
  | str s => rw [D.own] at h; exact h.2.2
  | num n => rw [D.own] at h; exact h.2.2.2
  | bit b => rw [D.own] at h; exact h.2
  | sl n cs => exact hd.elim
/-- a leaf in the middle is stored -/
theorem own_put {w : World} {b off n cap i : Nat} {A R : List D} {x d : D} {u : Value} {F : List Nat} (h : D.own w (.slice (some ⟨b, off, none⟩) n cap) (.sl n (A ++ x :: R)) F) (hi : i = A.length) (hx : x.leaf) (hu : ∀ w', D.own w' u d []) : D.own (w.setCell ⟨b, off + i, none⟩ u) (.slice (some ⟨b, off, none⟩) n cap) (.sl n (A ++ d :: R)) F := by
  have hl : i < (A ++ x :: R).length := by subst hi; simp
  have := D.own_store h hl (u := u) (d' := d) (fun v G hv => by rw [get_mid hi] at hv; exact leaf_own hx hv) hu
  rwa [set_mid hi] at this
end Go.Proofs.Ytoblhgaohmfjeaa
