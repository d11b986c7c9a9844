/- Bindings of some variables: slices.DeleteFunc in the program's text. -/
import Derived.Test.YtoblhgaohmfjeaaCb
import Derived.Test.YtoblhgaohmfjeaaPl
import Derived.Test.YtoblhgaohmfjeaaNm
import Derived.Test.YtoblhgaohmfjeaaHw
namespace Go.Proofs.Ytoblhgaohmfjeaa
set_option maxRecDepth 100000
open Go.RowKit

/-! ### rows whose cells are stored -/
theorem RowAt.setCells {b off : Nat} {e : TypeId} : ∀ (us : List Value) {w : World} {vs : List Value} {s : Nat}, RowAt w b off e vs → s + us.length ≤ vs.length → ∃ vs', RowAt (w.setCells b (off + s) us) b off e vs' ∧ vs'.length = vs.length ∧ ∀ i, i < s → vs'[i]? = vs[i]?
  | [], w, vs, s, h, _ => ⟨vs, h, rfl, fun _ _ => rfl⟩
  | u :: us, w, vs, s, h, hl => by
    simp only [List.length_cons] at hl
    have h1 := h.set (i := s) (by omega) u
    obtain ⟨vs', h2, h3, h4⟩ := RowAt.setCells us (s := s + 1) h1 (by rw [List.length_set]; omega)
    refine ⟨vs', ?_, by rw [h3, List.length_set], fun i hi => ?_⟩
    · rw [World.setCells]
      rw [show off + s + 1 = off + (s + 1) by omega]
      exact h2
    · rw [h4 i (by omega), List.getElem?_set_ne (by omega)]
theorem Mk.setCells {F : List Nat} {b : Nat} (hb : b ∈ F) : ∀ (us : List Value) (o : Nat) (w : World), Mk F w (w.setCells b o us)
  | [], _, w => Mk.refl _ _
  | u :: us, o, w => by rw [World.setCells]; exact (Mk.set hb u).trans (Mk.setCells hb us (o + 1) _)
/-- clear(s) of a list of structs -/
theorem run_clear_rows {P : Program} (w : World) (t e : TypeId) (z : Value) (m : Nat) (ht : P.underlying t = some (.slice e)) (hv : ∀ w, (zeroValue e).run P w = .ok z w) (hz : z.cells.size = m) (hm : 0 < m) (h1 : ∀ v ∈ z.cells.toList, v.oneCell' = true) (b o n c : Nat) (hn : 0 < n)
    (hc : ∀ j, j < n * m → (w.cell? ⟨b, o + j, none⟩).isSome = true) (hf : ∀ j, j < n * m → w.frozen? ⟨b, o + j, none⟩ = false) :
    ∃ us : List Value, us.length = n * m ∧ ∀ ty, (Builtin.clear_ #[t] ty #[.slice (some ⟨b, o, none⟩) n c]).run P w = .ok (.tuple #[]) (w.setCells b o us) := by
  have hl : (Builtin.zeroCells z.cells n).toList.length = n * m := by simp [Builtin.zeroCells, hz]
  refine ⟨(Builtin.zeroCells z.cells n).toList, hl, fun ty => ?_⟩
  have hst := run_storeCells_cells (P := P) b o (Builtin.zeroCells z.cells n).toList 0 w (by rw [hl]; simpa using hc) (by rw [hl]; simpa using hf) (by
    intro v hv'
    simp only [Builtin.zeroCells, Array.toList_map, List.mem_map] at hv'
    obtain ⟨i, hi, rfl⟩ := hv'
    have hlt : i % z.cells.size < z.cells.size := Nat.mod_lt _ (by omega)
    rw [getElem!_pos z.cells _ hlt]
    exact h1 _ (by simp))
  simp only [Nat.add_zero] at hst
  obtain ⟨n, rfl⟩ : ∃ k, n = k + 1 := ⟨n - 1, by omega⟩
  simp [Builtin.clear_, run_underlying ht, hv, hst]

/-! ### bindings as pairs -/
def Bnd.ev (p : Bnd × Value) : List Value := [.string p.1.var, .string p.1.term.name, p.2]
def Bnd.ed (p : Bnd × Value) : List D := p.1.cs
theorem Bnd.ev_ed (p : Bnd × Value) : (Bnd.ev p).length = (Bnd.ed p).length := by rw [Bnd.ed, Bnd.cs_eq]; rfl
theorem Bnd.items {w : World} : ∀ (xs : List Bnd) (vs : List Value) (F : List Nat), OwnsL w vs (Bnd.css xs) F → ∃ d : List (Bnd × Value), d.map Prod.fst = xs ∧ vs = d.flatMap Bnd.ev ∧ ∀ p ∈ d, p.1.var.size ≤ maxLen ∧ p.1.term.name.size ≤ maxLen ∧ ∃ a c, p.2 = .slice a p.1.term.args.length c
  | [], vs, F, h => by
    have := h.length
    have hv : vs = [] := List.length_eq_zero_iff.1 (by simpa [Bnd.css] using this)
    exact ⟨[], rfl, hv, by simp⟩
  | x :: xs, vs, F, h => by
    have hl := h.length
    rw [Bnd.css_flat, List.flatMap_cons, Bnd.cs_eq] at h hl
    simp only [List.length_append, List.length_cons, List.length_nil] at hl
    match vs, hl, h with
    | v0 :: v1 :: v2 :: vs, _, h =>
      rw [show ([D.str x.var, D.str x.term.name, Tm.sd x.term.args] ++ xs.flatMap Bnd.cs) = D.str x.var :: D.str x.term.name :: Tm.sd x.term.args :: xs.flatMap Bnd.cs from rfl] at h
      rw [OwnsL] at h
      obtain ⟨G0, R0, _, _, o0, h⟩ := h
      rw [OwnsL] at h
      obtain ⟨G1, R1, _, _, o1, h⟩ := h
      rw [OwnsL] at h
      obtain ⟨G2, R2, _, _, o2, h⟩ := h
      rw [D.own] at o0 o1
      obtain ⟨d, hd, hv, hs⟩ := Bnd.items xs vs R2 (by rw [Bnd.css_flat]; exact h)
      refine ⟨(x, v2) :: d, by simp [hd], ?_, fun p hp => ?_⟩
      · rw [o0.1, o1.1, hv, List.flatMap_cons]; rfl
      · rcases List.mem_cons.1 hp with rfl | hp
        · exact ⟨o0.2.1, o1.2.1, Tm.sd_own_form o2⟩
        · exact hs p hp
    | [_, _], hl, _ => simp at hl; omega
    | [_], hl, _ => simp at hl; omega
    | [], hl, _ => simp at hl; omega
theorem Bnd.flat_ed (d : List (Bnd × Value)) : d.flatMap Bnd.ed = Bnd.css (d.map Prod.fst) := by
  induction d with
  | nil => rfl
  | cons p d ih => rw [List.flatMap_cons, ih, List.map_cons, Bnd.css_flat, Bnd.css_flat, List.flatMap_cons]; rfl
theorem Bnd.ev_get : ∀ (d : List (Bnd × Value)) (k : Nat) (h : k < d.length), (d.flatMap Bnd.ev)[k * 3]? = some (.string d[k].1.var) ∧ (d.flatMap Bnd.ev)[k * 3 + 1]? = some (.string d[k].1.term.name) ∧ (d.flatMap Bnd.ev)[k * 3 + 2]? = some d[k].2
  | [], k, h => absurd h (by simp)
  | p :: d, 0, _ => by simp [Bnd.ev]
  | p :: d, k + 1, h => by
    have ih := Bnd.ev_get d k (by simpa using h)
    rw [List.flatMap_cons, Bnd.ev]
    rw [show (k + 1) * 3 = k * 3 + 1 + 1 + 1 by omega, show k * 3 + 1 + 1 + 1 + 1 = (k * 3 + 1) + 1 + 1 + 1 by omega, show k * 3 + 1 + 1 + 1 + 2 = (k * 3 + 2) + 1 + 1 + 1 by omega]
    simpa using ih
theorem Bnd.ev_length (d : List (Bnd × Value)) : (d.flatMap Bnd.ev).length = d.length * 3 := by
  induction d with
  | nil => rfl
  | cons p d ih => rw [List.flatMap_cons, List.length_append, ih, List.length_cons]; show 3 + _ = _; omega
theorem Bnd.ev_set : ∀ (d : List (Bnd × Value)) (k : Nat) (p : Bnd × Value) (_ : k < d.length), (((d.flatMap Bnd.ev).set (k * 3) (.string p.1.var)).set (k * 3 + 1) (.string p.1.term.name)).set (k * 3 + 2) p.2 = (d.set k p).flatMap Bnd.ev
  | [], k, _, h => absurd h (by simp)
  | q :: d, 0, p, _ => by simp [Bnd.ev]
  | q :: d, k + 1, p, h => by
    have ih := Bnd.ev_set d k p (by simpa using h)
    rw [List.set_cons_succ, List.flatMap_cons, List.flatMap_cons, Bnd.ev]
    rw [show (k + 1) * 3 = k * 3 + 1 + 1 + 1 by omega, show k * 3 + 1 + 1 + 1 + 1 = (k * 3 + 1) + 1 + 1 + 1 by omega, show k * 3 + 1 + 1 + 1 + 2 = (k * 3 + 2) + 1 + 1 + 1 by omega]
    simpa using ih
theorem Bnd.ev_take (d : List (Bnd × Value)) (k : Nat) : ∀ i, i < k * 3 → (d.flatMap Bnd.ev)[i]? = ((d.take k).flatMap Bnd.ev)[i]? := by
  intro i hi
  have e : d.flatMap Bnd.ev = (d.take k).flatMap Bnd.ev ++ (d.drop k).flatMap Bnd.ev := by rw [← List.flatMap_append, List.take_append_drop]
  rw [e]
  by_cases hk : k ≤ d.length
  · rw [List.getElem?_append_left (by rw [Bnd.ev_length, List.length_take, Nat.min_eq_left hk]; exact hi)]
  · rw [List.drop_eq_nil_of_le (by omega)]; simp

/-! ### what is kept -/
theorem filter_take_snoc {α : Type} (p : α → Bool) (d : List α) (j : Nat) (h : j < d.length) : (d.take (j + 1)).filter p = (d.take j).filter p ++ if p d[j] = true then [d[j]] else [] := by
  rw [List.take_succ_eq_append_getElem h, List.filter_append]
  congr 1
  cases hp : p d[j] <;> simp [hp]
/-- the row after j items: the kept ones ahead, those to come as they were -/
def KInv {α : Type} (p : α → Bool) (d : List α) (j i : Nat) (E : List α) : Prop := E.length = d.length ∧ i = ((d.take j).filter p).length ∧ E.take i = (d.take j).filter p ∧ E.drop j = d.drop j ∧ i < j ∧ j ≤ d.length
theorem KInv.keep {α : Type} {p : α → Bool} {d E : List α} {j i : Nat} (h : KInv p d j i E) (hj : j < d.length) (hp : p d[j] = true) : KInv p d (j + 1) (i + 1) (E.set i d[j]) := by
  obtain ⟨h0, h1, h2, h3, h4, h5⟩ := h
  have hs := filter_take_snoc p d j hj
  rw [if_pos hp] at hs
  refine ⟨by rw [List.length_set, h0], by rw [hs, List.length_append, ← h1]; rfl, ?_, ?_, by omega, by omega⟩
  · rw [hs, ← h2]
    rw [List.take_succ_eq_append_getElem (by rw [List.length_set]; omega), List.take_set_of_le (Nat.le_refl _)]
    simp
  · rw [List.drop_set_of_lt (by omega)]
    have := congrArg (List.drop 1) h3
    simpa only [List.drop_drop] using this
theorem KInv.skip {α : Type} {p : α → Bool} {d E : List α} {j i : Nat} (h : KInv p d j i E) (hj : j < d.length) (hp : p d[j] = false) : KInv p d (j + 1) i E := by
  obtain ⟨h0, h1, h2, h3, h4, h5⟩ := h
  have hs := filter_take_snoc p d j hj
  rw [if_neg (by simp [hp]), List.append_nil] at hs
  exact ⟨h0, by rw [hs]; exact h1, by rw [hs]; exact h2, by have := congrArg (List.drop 1) h3; simpa only [List.drop_drop] using this, by omega, by omega⟩
theorem KInv.at {α : Type} {p : α → Bool} {d E : List α} {j i : Nat} (h : KInv p d j i E) (hj : j < d.length) (hE : j < E.length) : E[j] = d[j] := by
  have h3 := h.2.2.2.1
  rw [List.drop_eq_getElem_cons hE, List.drop_eq_getElem_cons hj] at h3
  injection h3
theorem KInv.start {α : Type} {p : α → Bool} {d : List α} {k : Nat} (hk : k < d.length) (hall : ∀ j (h : j < d.length), j < k → p d[j] = true) (hno : p d[k] = false) : KInv p d (k + 1) k d := by
  have hf : (d.take k).filter p = d.take k := by
    rw [List.filter_eq_self]
    intro a ha
    obtain ⟨j, hj, rfl⟩ := List.mem_iff_getElem.1 ha
    rw [List.length_take] at hj
    rw [List.getElem_take]
    exact hall j (by omega) (by omega)
  have hs := filter_take_snoc p d k hk
  rw [if_neg (by simp [hno]), List.append_nil, hf] at hs
  exact ⟨rfl, by rw [hs, List.length_take]; omega, by rw [hs], rfl, by omega, by omega⟩

/-- the variables of the call lie behind the pointer -/
def VarsAt (w : World) (vb : Nat) (ss : List ByteArray) : Prop := ∃ v, w.cell? ⟨vb, 0, none⟩ = some v ∧ D.rd (· < w.heap.size) w v (slOf strE ss) ∧ vb < w.heap.size
set_option maxHeartbeats 1000000 in
theorem restrict1_any {x : Bnd} {c : Value} {vb : Nat} {ss : List ByteArray} {w : World} (h : VarsAt w vb ss) : Calls Try.prog 47 #[.agg #[.string x.var, .string x.term.name, c], .pointer (some ⟨vb, 0, none⟩)] w (Gives w (.bool (!hasStr ss x.var))) := by
  obtain ⟨v, h0, h1, hl⟩ := h
  have hA : Below w.heap.size w (w.alloc (.cells #[.string x.var, .string x.term.name, c] 68)) := (Below.refl _ _).alloc (Nat.le_refl _) _
  replace h0 := (hA.cell (p := ⟨vb, 0, none⟩) hl).trans h0
  have H1 := hid (D.rd_keep (Keeps.all hA) _ _ h1)
  clear h1
  go_enter Try.func47, Try.ntmps47
  go_wp2_with fail
  refine (containsStr_any x.var H1.out).mono ?_
  rintro e w' ⟨rfl, rfl⟩
  go_wp2_with fail
  go_ret
  exact Gives.mk rfl hA
/-- the first item that is struck, or -1 -/
def FirstB (xs : List Bnd) (p : Bnd → Bool) (w : World) (e : Ending) (w' : World) : Prop := ∃ r : Int, e = .returned (.int .i64 r) ∧ ((r = -1 ∧ ∀ j (h : j < xs.length), p xs[j] = false) ∨ ∃ k : Nat, r = k ∧ ∃ h : k < xs.length, p xs[k] = true ∧ ∀ j (h : j < xs.length), j < k → p xs[j] = false) ∧ Below w.heap.size w w'
set_option maxHeartbeats 1000000 in
theorem indexBnd_any {xs : List Bnd} {S : Nat → Prop} {v : Value} {vb : Nat} {ss : List ByteArray} {w : World} (hs : D.rd S w v (Bnd.sd xs)) (hv : VarsAt w vb ss) :
    Calls Try.prog 68 #[v, .func (.func 47) #[] #[.pointer (some ⟨vb, 0, none⟩)]] w (FirstB xs (fun x => !hasStr ss x.var) w) := by
  obtain ⟨a, cap, rfl, hlen, hcap⟩ := Bnd.sd_form hs
  unfold big at hlen
  have HV := hid hv
  clear hv
  go_enter Try.func68, Try.ntmps68
  go_wp2_with fail
  go_loopw [5, 8] (fun _ i wr => ∃ k : Nat, k ≤ xs.length ∧ i = .int .i64 k ∧ Hid (∀ j (h : j < xs.length), j < k → (!hasStr ss xs[j].var) = false) ∧ Below w.heap.size w wr) (fun _ i _ => xs.length - (intOf i).toNat)
  case atStart => exact ⟨0, Nat.zero_le _, rfl, fun j h h' => absurd h' (by omega), Below.refl _ _⟩
  case round =>
    obtain ⟨k, hk, rfl, HX, hb⟩ := hrel
    by_cases hlt : k < xs.length
    · have hne : xs ≠ [] := by intro e; subst e; simp at hlt
      obtain ⟨b, off, rfl, hS, hbl, hrr⟩ := Bnd.sd_get hs hne
      obtain ⟨c0, c1, c2, q0, q1, q2, qx⟩ := hrr k hlt
      obtain ⟨rfl, rfl, x, xc, rfl⟩ := Bnd.at_form qx
      replace q0 := (hb.cell (p := ⟨b, off + k * 3, none⟩) hbl).trans q0
      replace q1 := (hb.cell (p := ⟨b, off + k * 3 + 1, none⟩) hbl).trans q1
      replace q2 := (hb.cell (p := ⟨b, off + k * 3 + 2, none⟩) hbl).trans q2
      have hvk : VarsAt wr vb ss := by
        obtain ⟨v, h0, h1, hl⟩ := HV.out
        exact ⟨v, (hb.cell (p := ⟨vb, 0, none⟩) hl).trans h0, D.rd_mono (fun y hy => Nat.lt_of_lt_of_le hy hb.size) _ _ (D.rd_keep (Keeps.all hb) _ _ h1), Nat.lt_of_lt_of_le hl hb.size⟩
      have hq := restrict1_any (x := xs[k]) (c := .slice x xs[k].term.args.length xc) hvk
      clear hrr qx hs hvk
      go_wp2_with fail
      refine hq.mono ?_
      rintro e w2 ⟨_, rfl, hb2, rfl⟩
      have hb3 := hb.trans (hb2.mono hb.size)
      by_cases hp : hasStr ss xs[k].var = true
      · have HZ : Hid (∀ j (h : j < xs.length), j < k + 1 → (!hasStr ss xs[j].var) = false) := fun j h h' => by
          by_cases hjk : j < k
          · exact HX.out j h hjk
          · obtain rfl : j = k := by omega
            rw [hp]; rfl
        rw [hp]
        clear hp
        go_wp2_with fail
        go_roundw
        case rel => exact ⟨k + 1, by omega, by go_num, HZ, hb3⟩
        case measure => simp [intOf]; omega
      · replace hp : hasStr ss xs[k].var = false := by simpa using hp
        have HP := hid hp
        rw [hp]
        clear hp
        go_wp2_with fail
        go_ret
        exact ⟨(k : Int), rfl, .inr ⟨k, rfl, hlt, by show (!hasStr ss xs[k].var) = true; rw [HP.out]; rfl, fun j h h' => HX.out j h h'⟩, hb3⟩
    · obtain rfl : k = xs.length := by omega
      go_wp2_with fail
      go_ret
      exact ⟨-1, rfl, .inl ⟨rfl, fun j h => HX.out j h h⟩, hb⟩
end Go.Proofs.Ytoblhgaohmfjeaa
