/- From the reading of an argument to the data of cells. -/
import Derived.Test.YtooocakkjdhfiaaDoorD
import Derived.DataReads
import Derived.Deep.Slices
namespace Go.Proofs.YtooocakkjdhfiaaDoor
set_option maxRecDepth 100000
open Go.RowKit Go.ChangeShapes Go.WideShapes

/-- every item has m cells -/
def Wide {α : Type} (enc : α → List D) (m : Nat) : Prop := ∀ y, (enc y).length = m

theorem flat_length {α : Type} {enc : α → List D} {m : Nat} (hw : Wide enc m) (ys : List α) : (ys.flatMap enc).length = ys.length * m := by
  induction ys with
  | nil => simp
  | cons y ys ih => rw [List.flatMap_cons, List.length_append, ih, hw y, List.length_cons, Nat.add_mul, Nat.one_mul, Nat.add_comm]
theorem flat_get {α : Type} {enc : α → List D} {m : Nat} (hw : Wide enc m) (ys : List α) (k j : Nat) (hk : k < ys.length) (hj : j < m) : (ys.flatMap enc)[k * m + j]? = (enc ys[k])[j]? := by
  induction ys generalizing k with
  | nil => exact absurd hk (by simp)
  | cons y ys ih =>
    rw [List.flatMap_cons]
    cases k with
    | zero => rw [Nat.zero_mul, Nat.zero_add, List.getElem?_append_left (by rw [hw y]; exact hj)]; rfl
    | succ k =>
      rw [List.getElem?_append_right (by rw [hw y, Nat.add_mul, Nat.one_mul]; omega), hw y, show (k + 1) * m + j - m = k * m + j by rw [Nat.add_mul, Nat.one_mul]; omega, ih k (by simpa using hk)]
      rfl
theorem flat_ne {α : Type} {enc : α → List D} {m : Nat} (hw : Wide enc m) (hm : 0 < m) {ys : List α} (h : ys ≠ []) : ys.flatMap enc ≠ [] := by
  intro e
  have := flat_length hw ys
  rw [e] at this
  have h0 : ys.length * m = 0 := by simpa using this.symm
  rcases Nat.mul_eq_zero.1 h0 with h1 | h1
  · exact h (List.length_eq_zero_iff.1 h1)
  · omega
theorem flat_take_succ {α : Type} {enc : α → List D} (ys : List α) (k : Nat) (hk : k < ys.length) : (ys.take (k + 1)).flatMap enc = (ys.take k).flatMap enc ++ enc ys[k] := by
  rw [List.take_succ_eq_append_getElem hk, List.flatMap_append]; simp

/-- the datum of a slice of items -/
def slOf {α : Type} (enc : α → List D) (ys : List α) : D := .sl ys.length (ys.flatMap enc)

theorem slOf_form {α : Type} {enc : α → List D} {S : Nat → Prop} {w : World} {v : Value} {ys : List α} (h : D.rd S w v (slOf enc ys)) : ∃ a cap, v = .slice a ys.length cap ∧ ys.length ≤ big ∧ ys.length ≤ cap := by
  rw [slOf, D.rd] at h
  obtain ⟨a, cap, e, h1, h2, _⟩ := h
  exact ⟨a, cap, e, h1, h2⟩
theorem slOf_get {α : Type} {enc : α → List D} {m : Nat} (hw : Wide enc m) (hm : 0 < m) {S : Nat → Prop} {w : World} {a : Option Addr} {n cap : Nat} {ys : List α} (h : D.rd S w (.slice a n cap) (slOf enc ys)) (hne : ys ≠ []) :
    ∃ b off, a = some ⟨b, off, none⟩ ∧ S b ∧ b < w.heap.size ∧ ∀ k (hk : k < ys.length) j d, (enc ys[k])[j]? = some d → ∃ v, w.cell? ⟨b, off + (k * m + j), none⟩ = some v ∧ D.rd S w v d := by
  rw [slOf, D.rd] at h
  obtain ⟨a', cap', e, h1, h2, h3, h4⟩ := h
  injection e with e0 e1 e2
  subst e0
  obtain ⟨b, off, q0, q1, q2, q3⟩ := h4 (flat_ne hw hm hne)
  refine ⟨b, off, q0, q1, q2, fun k hk j d hd => ?_⟩
  have hj : j < m := by
    have := (List.getElem?_eq_some_iff.1 hd).1
    rwa [hw] at this
  exact D.rds_get q3 (by rw [flat_get hw ys k j hk hj]; exact hd)

/-- cells that read, one by one -/
def CellsRd (S : Nat → Prop) (w : World) : List Value → List D → Prop
  | [], [] => True
  | v :: vs, d :: ds => D.rd S w v d ∧ CellsRd S w vs ds
  | _, _ => False

theorem CellsRd.get {S : Nat → Prop} {w : World} : ∀ {vs : List Value} {ds : List D}, CellsRd S w vs ds → vs.length = ds.length ∧ ∀ (i : Nat) v d, vs[i]? = some v → ds[i]? = some d → D.rd S w v d
  | [], [], _ => ⟨rfl, fun i v d h => by simp at h⟩
  | [], _ :: _, h => h.elim
  | _ :: _, [], h => h.elim
  | v :: vs, d :: ds, ⟨h0, h1⟩ => by
    obtain ⟨g0, g1⟩ := CellsRd.get h1
    refine ⟨by simp [g0], fun i v' d' hv hd => ?_⟩
    cases i with
    | zero => simp at hv hd; subst hv hd; exact h0
    | succ i => exact g1 i v' d' (by simpa using hv) (by simpa using hd)

theorem spot_none {w : World} {a : Addr} {v : Value} (h : w.cell? a = some v) : a = ⟨a.block, a.off, none⟩ := by
  obtain ⟨b, o, s⟩ := a
  cases s with
  | none => rfl
  | some s =>
    unfold World.cell? at h
    split at h
    · simp at h
    · simp at h

section
variable {H : Type} {enc' : TypeId × Value → H} {P : Program} {w : World}

/-- a slice of items that read -/
theorem open_slOf {α : Type} {enc : α → List D} {m : Nat} (hw : Wide enc m) (hm : 0 < m) {t e : TypeId} (ht : P.underlying t = some (.slice e)) (he : P.cellsOf e = m) {fuel : Nat} {cs : List Value} {x : DataW H × List MemPlace}
    (hel : ∀ n cs x, n < fuel → DataW.trod enc' P w 0 (fun _ => true) true n e cs = some x → ∃ y, CellsRd (fun _ => True) w cs (enc y))
    (h : DataW.trod enc' P w 0 (fun _ => true) true fuel t cs = some x) : ∃ v ys, cs = [v] ∧ D.rd (fun _ => True) w v (slOf enc ys) := by
  rcases DataW.trod_slice ht h with ⟨rfl, rfl⟩ | ⟨a, len, cap, elems, rest, n, rfl, rfl, rfl, hb, hl, hcm, hlen, hels, _, _⟩
  · refine ⟨_, [], rfl, ?_⟩
    rw [slOf, D.rd]
    exact ⟨none, 0, rfl, Nat.zero_le _, Nat.zero_le _, fun h => absurd rfl h, fun h => absurd rfl h⟩
  · have hrow : ∀ i, i < len → ∃ (y : α) (cs' : List Value), w.cells? 0 (a.add (i * P.cellsOf e)) (P.cellsOf e) = some cs' ∧ CellsRd (fun _ => True) w cs' (enc y) := by
      intro i hi
      have hx := hels i hi
      rw [List.getElem?_eq_getElem (by omega : i < elems.length)] at hx
      rw [Option.bind_eq_some_iff] at hx
      obtain ⟨cs', hc, hx⟩ := hx
      obtain ⟨y, hy⟩ := hel n cs' _ (Nat.lt_succ_self n) hx
      exact ⟨y, cs', hc, hy⟩
    have hys : ∀ k, k ≤ len → ∃ ys : List α, ys.length = k ∧ ∀ i (hi : i < ys.length), ∃ cs' : List Value, w.cells? 0 (a.add (i * P.cellsOf e)) (P.cellsOf e) = some cs' ∧ CellsRd (fun _ => True) w cs' (enc ys[i]) := by
      intro k
      induction k with
      | zero => intro _; exact ⟨[], rfl, fun i hi => absurd hi (by simp)⟩
      | succ k ih =>
        intro hk
        obtain ⟨ys, hl', hy⟩ := ih (by omega)
        obtain ⟨y, cs', hc, hr⟩ := hrow k (by omega)
        refine ⟨ys ++ [y], by simp [hl'], fun i hi => ?_⟩
        by_cases hik : i < ys.length
        · rw [List.getElem_append_left hik]; exact hy i hik
        · have hi' : i = ys.length := by simp at hi; omega
          subst hi'
          rw [List.getElem_append_right (Nat.le_refl _)]
          simp only [Nat.sub_self, List.getElem_singleton]
          rw [hl']
          exact ⟨cs', hc, hr⟩
    obtain ⟨ys, hyl, hy⟩ := hys len (Nat.le_refl _)
    refine ⟨_, ys, rfl, ?_⟩
    rw [slOf, D.rd]
    have hmx : maxLen = big := rfl
    refine ⟨some a, cap, by rw [hyl], by omega, by omega, fun h0 => ?_, fun hne => ?_⟩
    · exact flat_ne hw hm (by intro e; subst e; simp at h0)
    · have hlen0 : 0 < ys.length := by
        rcases ys with _ | ⟨y, ys⟩
        · simp at hne
        · simp
      have hcell : ∀ i (hi : i < ys.length) j d, (enc ys[i])[j]? = some d → ∃ v, w.cell? (a.add (i * m + j)) = some v ∧ D.rd (fun _ => True) w v d := by
        intro i hi j d hd
        obtain ⟨cs', hc, hr⟩ := hy i hi
        obtain ⟨g0, g1⟩ := hr.get
        have hj : j < m := by
          have := (List.getElem?_eq_some_iff.1 hd).1
          rwa [hw] at this
        obtain ⟨_, hlc, hcc⟩ := World.cells?_some hc
        have hv : cs'[j]? = some (cs'[j]'(by rw [g0, hw]; exact hj)) := List.getElem?_eq_getElem _
        refine ⟨_, ?_, g1 j _ d hv hd⟩
        have := hcc j (by rw [he]; exact hj)
        rw [hv, he, Go.Deep.add_add] at this
        exact this
      have hfirst : ∃ d, (enc (ys[0]'hlen0))[0]? = some d := ⟨_, List.getElem?_eq_getElem (by rw [hw]; exact hm)⟩
      obtain ⟨d0, hd0⟩ := hfirst
      obtain ⟨v0, hv0, _⟩ := hcell 0 hlen0 0 d0 hd0
      have ha : a = ⟨a.block, a.off, none⟩ := by
        have := spot_none hv0
        simpa [Addr.add] using this
      refine ⟨a.block, a.off, congrArg some ha, trivial, ?_, (D.rds_iff _ _).2 fun i hi => ?_⟩
      · have := World.block_lt_of_cell? _ _ hv0
        simpa [Addr.add] using this
      · have hfl := flat_length hw ys
        have hdm : i / m < ys.length := by
          rw [Nat.div_lt_iff_lt_mul hm]; omega
        have hmod : i % m < m := Nat.mod_lt _ hm
        have hid : i / m * m + i % m = i := by rw [Nat.mul_comm]; exact Nat.div_add_mod i m
        have hg := flat_get hw ys (i / m) (i % m) hdm hmod
        rw [hid, List.getElem?_eq_getElem hi] at hg
        obtain ⟨v, q0, q1⟩ := hcell (i / m) hdm (i % m) _ hg.symm
        refine ⟨v, ?_, q1⟩
        rw [hid] at q0
        rw [← q0]
        congr 1
        rw [ha]
        simp only [Addr.add]
        split
        · rename_i h0; subst h0; rfl
        · rfl
end
end Go.Proofs.YtooocakkjdhfiaaDoor
