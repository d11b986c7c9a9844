/- Variables are renamed to numbered ones: plain. -/
import Derived.Test.YtglhbaigigdeeaaDoorVo
import Derived.Test.YtglhbaigigdeeaaDoorTp
import Derived.Test.YtglhbaigigdeeaaDoorNw
import Derived.Test.YtglhbaigigdeeaaDoorMe
namespace Go.Proofs.YtglhbaigigdeeaaDoor
set_option maxRecDepth 100000
open Go.RowKit

theorem nodup_one {α : Type} {l : List α} (h : l.Nodup) {i j : Nat} (hi : i < l.length) (hj : j < l.length) (e : l[i] = l[j]) : i = j := by
  rw [List.nodup_iff_pairwise_ne, List.pairwise_iff_getElem] at h
  rcases Nat.lt_trichotomy i j with q | q | q
  · exact absurd e (h i j hi hj q)
  · exact q
  · exact absurd e.symm (h j i hj hi q)
/-- a prefix before a number -/
def numS (p : ByteArray) (i : Nat) : ByteArray := p ++ itoaB (i : Int)
theorem numS_size (p : ByteArray) {i : Nat} (h : i ≤ 999999) : p.size + 1 ≤ (numS p i).size ∧ (numS p i).size ≤ p.size + 7 := by
  have := itoaB_size (n := (i : Int)) (by omega) (by omega)
  rw [numS, ByteArray.size_append]
  omega
/-- where a name stands; the length of the list if nowhere -/
def idxS : List ByteArray → ByteArray → Nat
  | [], _ => 0
  | k :: ks, n => if k = n then 0 else idxS ks n + 1
theorem idxS_le : ∀ (ks : List ByteArray) (n : ByteArray), idxS ks n ≤ ks.length
  | [], n => by simp [idxS]
  | k :: ks, n => by
    rw [idxS]
    split
    · omega
    · have := idxS_le ks n
      simp; omega
theorem idxS_at : ∀ {ks : List ByteArray} {n : ByteArray} {k : Nat}, k ≤ ks.length → (∀ j (h : j < ks.length), j < k → ks[j] ≠ n) → (∀ h : k < ks.length, ks[k] = n) → idxS ks n = k
  | [], n, k, h, _, _ => by simp at h; subst h; rfl
  | x :: ks, n, 0, _, _, h2 => by
    have : x = n := h2 (by simp)
    rw [idxS, if_pos this]
  | x :: ks, n, k + 1, h, h1, h2 => by
    have h0 : x ≠ n := h1 0 (by simp) (by omega)
    rw [idxS, if_neg h0, idxS_at (by simpa using h) (fun j hj hk => by have := h1 (j + 1) (by simpa using hj) (by omega); simpa using this) (fun hk => by have := h2 (by simpa using hk); simpa using this)]
theorem idxS_mem : ∀ {ks : List ByteArray} {n : ByteArray}, idxS ks n < ks.length ↔ n ∈ ks
  | [], n => by simp [idxS]
  | k :: ks, n => by
    rw [idxS]
    split
    · rename_i h; simp [h]
    · rename_i h
      have := idxS_mem (ks := ks) (n := n)
      simp only [List.length_cons, List.mem_cons]
      constructor
      · intro q; exact .inr (this.1 (by omega))
      · rintro (q | q)
        · exact absurd q.symm h
        · have := this.2 q; omega
/-- the new name -/
def renN (p : ByteArray) (ks : List ByteArray) (n : ByteArray) : ByteArray := if idxS ks n < ks.length then numS p (idxS ks n) else n
mutual
/-- variables are renamed -/
def Tm.ren (p : ByteArray) (ks : List ByteArray) : Tm → Tm
  | .node n ts => if varName n = true then .node (renN p ks n) [] else .node n (Tm.rens p ks ts)
def Tm.rens (p : ByteArray) (ks : List ByteArray) : List Tm → List Tm
  | [] => []
  | t :: ts => Tm.ren p ks t :: Tm.rens p ks ts
end
theorem Tm.ren_eq (p : ByteArray) (ks : List ByteArray) (t : Tm) : Tm.ren p ks t = if varName t.name = true then .node (renN p ks t.name) [] else .node t.name (Tm.rens p ks t.args) := by
  cases t; rw [Tm.ren]; rfl
theorem Tm.rens_map (p : ByteArray) (ks : List ByteArray) : ∀ ts, Tm.rens p ks ts = ts.map (Tm.ren p ks)
  | [] => rfl
  | t :: ts => by rw [Tm.rens, Tm.rens_map p ks ts]; rfl
theorem Tm.rens_take (p : ByteArray) (ks : List ByteArray) (ts : List Tm) (k : Nat) (h : k < ts.length) : Tm.rens p ks (ts.take (k + 1)) = Tm.rens p ks (ts.take k) ++ [Tm.ren p ks ts[k]] := by
  rw [Tm.rens_map, Tm.rens_map, List.take_succ_eq_append_getElem h, List.map_append]; rfl
theorem Tm.rens_length (p : ByteArray) (ks : List ByteArray) (ts : List Tm) : (Tm.rens p ks ts).length = ts.length := by rw [Tm.rens_map, List.length_map]
theorem renN_size (p : ByteArray) {ks : List ByteArray} (n : ByteArray) (h : ks.length ≤ 999999) : (renN p ks n).size ≤ n.size + p.size + 7 := by
  unfold renN
  split
  · have := numS_size p (i := idxS ks n) (by omega); omega
  · omega
theorem Tm.ren_size (p : ByteArray) (ks : List ByteArray) (t : Tm) : (Tm.ren p ks t).size ≤ t.size := by
  refine Tm.ind (P := fun t => (Tm.ren p ks t).size ≤ t.size) (fun n ts ih => ?_) t
  rw [Tm.ren]
  have key : ∀ ts : List Tm, (∀ a ∈ ts, (Tm.ren p ks a).size ≤ a.size) → Tm.sizes (Tm.rens p ks ts) ≤ Tm.sizes ts := by
    intro ts
    induction ts with
    | nil => intro _; simp [Tm.rens]
    | cons t ts iht =>
      intro h
      have h0 := h t (by simp)
      have h1 := iht fun a ha => h a (by simp [ha])
      rw [Tm.rens, Tm.sizes, Tm.sizes]; omega
  split
  · simp only [Tm.size, Tm.sizes]; omega
  · have := key ts ih
    rw [Tm.size, Tm.size]; omega
theorem Tm.ren_bulk (p : ByteArray) {ks : List ByteArray} (hk : ks.length ≤ 999999) (t : Tm) : (Tm.ren p ks t).bulk ≤ t.bulk + (p.size + 7) * t.size := by
  refine Tm.ind (P := fun t => (Tm.ren p ks t).bulk ≤ t.bulk + (p.size + 7) * t.size) (fun n ts ih => ?_) t
  rw [Tm.ren]
  have key : ∀ ts : List Tm, (∀ a ∈ ts, (Tm.ren p ks a).bulk ≤ a.bulk + (p.size + 7) * a.size) → Tm.bulks (Tm.rens p ks ts) ≤ Tm.bulks ts + (p.size + 7) * Tm.sizes ts := by
    intro ts
    induction ts with
    | nil => intro _; simp [Tm.rens]
    | cons t ts iht =>
      intro h
      have h0 := h t (by simp)
      have h1 := iht fun a ha => h a (by simp [ha])
      rw [Tm.rens, Tm.bulks, Tm.bulks, Tm.sizes, Nat.mul_add]; omega
  split
  · have := renN_size p n hk
    simp only [Tm.bulk, Tm.size, Tm.bulks, List.length_nil, Nat.mul_add]; omega
  · have := key ts ih
    have := Tm.rens_length p ks ts
    simp only [Tm.bulk, Tm.size, Nat.mul_add]; omega
/-- the map from the names to the new ones -/
def kvR (p : ByteArray) (ks : List ByteArray) : List (ByteArray × Value) := ks.mapIdx fun i k => (k, Value.string (numS p i))
theorem kvR_length (p : ByteArray) (ks : List ByteArray) : (kvR p ks).length = ks.length := by simp [kvR]
theorem kvR_keys (p : ByteArray) (ks : List ByteArray) : (kvR p ks).map (·.1) = ks := by
  apply List.ext_getElem (by simp [kvR])
  intro i h1 h2
  simp [kvR]
theorem kvR_snoc (p : ByteArray) (ks : List ByteArray) (k : Nat) (h : k < ks.length) : kvR p (ks.take (k + 1)) = kvR p (ks.take k) ++ [(ks[k], Value.string (numS p k))] := by
  rw [List.take_succ_eq_append_getElem h, kvR, List.mapIdx_concat]
  have : (ks.take k).length = k := by rw [List.length_take]; omega
  rw [this]; rfl
theorem kvR_fresh {p : ByteArray} {ks : List ByteArray} (hn : ks.Nodup) {k : Nat} (h : k < ks.length) : ∀ x ∈ kvR p (ks.take k), x.1 ≠ ks[k] := by
  intro x hx e
  have h1 : x.1 ∈ ks.take k := by rw [← kvR_keys p (ks.take k)]; exact List.mem_map.2 ⟨x, hx, rfl⟩
  obtain ⟨j, hj, hjk⟩ := List.mem_iff_getElem.1 h1
  rw [List.getElem_take] at hjk
  have hjl : j < k := by simp at hj; omega
  exact absurd (nodup_one hn (by omega) h (hjk.trans e)) (by omega)
theorem kvLook_idx (f : Nat → Value) : ∀ (ks : List ByteArray) (n : ByteArray), kvLook (ks.mapIdx fun i k => (k, f i)) n = if idxS ks n < ks.length then some (f (idxS ks n)) else none := by
  intro ks
  induction ks generalizing f with
  | nil => intro n; simp [kvLook, idxS]
  | cons k ks ih =>
    intro n
    rw [List.mapIdx_cons, kvLook, idxS]
    split
    · simp
    · rw [ih (fun i => f (i + 1)) n]
      simp only [List.length_cons, Nat.add_lt_add_iff_right]
theorem kvR_look (p : ByteArray) (ks : List ByteArray) (n : ByteArray) : kvLook (kvR p ks) n = if idxS ks n < ks.length then some (.string (numS p (idxS ks n))) else none := kvLook_idx _ ks n

/-- a numbered variable is a variable's name -/
theorem numS_var {c : UInt8} (hc : upB c.toNat = true) {i : Nat} (h : i ≤ 999) : varName (numS ⟨#[c]⟩ i) = true := by
  have e : numS ⟨#[c]⟩ i = ⟨#[c] ++ (Lib.decDigits i).toArray⟩ := by rw [numS, itoaB_nat, decB, ByteArray.mk_append_mk]; simp
  have hl : (Lib.decDigits i).length ≤ 3 := by rw [Lib.decDigits_length]; exact nDigits_le 2 i (by omega)
  have hz : (⟨#[c] ++ (Lib.decDigits i).toArray⟩ : ByteArray).size = 1 + (Lib.decDigits i).length := by
    show (#[c] ++ (Lib.decDigits i).toArray).size = _
    simp; omega
  rw [e, varName]
  simp only [Bool.and_eq_true, decide_eq_true_eq]
  refine ⟨⟨?_, by rw [hz]; omega⟩, by rw [hz]; omega⟩
  rw [allCh, List.all_eq_true]
  intro j hj
  have hj' : j < (⟨#[c] ++ (Lib.decDigits i).toArray⟩ : ByteArray).size := List.mem_range.1 hj
  have hb : byteAt ⟨#[c] ++ (Lib.decDigits i).toArray⟩ j = ((#[c] ++ (Lib.decDigits i).toArray)[j]'hj').toNat := by rw [byteAt, dif_pos hj']; rfl
  rw [hb, varCh]
  by_cases h0 : j = 0
  · subst h0
    rw [if_pos rfl]
    simpa using hc
  · rw [if_neg h0]
    have hm : (#[c] ++ (Lib.decDigits i).toArray)[j]'hj' ∈ Lib.decDigits i := by
      rw [Array.getElem_append_right (by simp; omega)]
      simp
    have := decDigits_mem i _ hm
    rw [Bool.or_eq_true, digB_iff]
    exact .inr this
end Go.Proofs.YtglhbaigigdeeaaDoor
