/- Maps from strings that a call makes: their memory, by a list of names and values in the order of their coming. -/
import Derived.Test.YtglhbaigigdeeaaDoorD
import Derived.Test.YtglhbaigigdeeaaDoorGr
import Derived.MapKept
import Derived.Maps.RangeWalk
import Derived.Laws.IdiomRangeMap
namespace Go.Proofs.YtglhbaigigdeeaaDoor
set_option maxRecDepth 100000
open Go.RowKit

/-- entry i of the list -/
def ment (kv : List (ByteArray × Value)) (i : Nat) (h : i < kv.length) : MapEntry := { key := .string kv[i].1, val := kv[i].2, born := i }
/-- block b is a map that holds the list -/
def MapIs (w : World) (b : Nat) (kv : List (ByteArray × Value)) : Prop :=
  ∃ es : Array MapEntry, w.heap[b]? = some (.map es kv.length) ∧ es.size = kv.length ∧ ∀ i (h : i < kv.length), es[i]? = some (ment kv i h)
def kvLook : List (ByteArray × Value) → ByteArray → Option Value
  | [], _ => none
  | p :: l, n => if p.1 = n then some p.2 else kvLook l n
def kvPut : List (ByteArray × Value) → ByteArray → Value → List (ByteArray × Value)
  | [], n, v => [(n, v)]
  | p :: l, n, v => if p.1 = n then (n, v) :: l else p :: kvPut l n v

theorem MapIs.lt {w : World} {b : Nat} {kv : List (ByteArray × Value)} (h : MapIs w b kv) : b < w.heap.size := by
  obtain ⟨es, h0, _⟩ := h; exact lt_of_heap h0
theorem MapIs.made (w : World) : MapIs (w.alloc (.map #[] 0)) w.heap.size [] := ⟨#[], heap_alloc_new w _, rfl, fun i h => absurd h (by simp)⟩
theorem MapIs.keep {w w' : World} {b : Nat} {kv : List (ByteArray × Value)} (h : MapIs w b kv) (hk : Keeps (· = b) w w') : MapIs w' b kv := by
  have hl := h.lt
  obtain ⟨es, h0, h1⟩ := h
  exact ⟨es, (hk.block b rfl hl).trans h0, h1⟩
theorem MapIs.grown {w w' : World} {b : Nat} {row : Option Nat} {kv : List (ByteArray × Value)} (h : MapIs w b kv) (hg : w.grownBy w' row) (hn : some b ≠ row) : MapIs w' b kv := by
  have hl := h.lt
  obtain ⟨es, h0, h1⟩ := h
  exact ⟨es, (hg.block b hl hn).trans h0, h1⟩
theorem ents_toList {es : Array MapEntry} {kv : List (ByteArray × Value)} (hs : es.size = kv.length) (he : ∀ i (h : i < kv.length), es[i]? = some (ment kv i h)) : ∀ x ∈ es.toList, ∃ i h, x = ment kv i h := by
  intro x hx
  obtain ⟨i, hi, rfl⟩ := List.mem_iff_getElem.1 hx
  have hi' : i < kv.length := by rw [← hs]; simpa using hi
  refine ⟨i, hi', ?_⟩
  have := he i hi'
  rw [Array.getElem?_eq_getElem (by omega)] at this
  simpa using this
theorem kvLook_none {kv : List (ByteArray × Value)} {n : ByteArray} : (∀ p ∈ kv, p.1 ≠ n) → kvLook kv n = none := by
  induction kv with
  | nil => intro _; rfl
  | cons p l ih => intro h; rw [kvLook, if_neg (h p (by simp))]; exact ih fun q hq => h q (by simp [hq])
theorem kvLook_at {kv : List (ByteArray × Value)} {n : ByteArray} (hd : (kv.map (·.1)).Nodup) {k : Nat} (h : k < kv.length) (hk : kv[k].1 = n) : kvLook kv n = some kv[k].2 := by
  induction kv generalizing k with
  | nil => exact absurd h (by simp)
  | cons p l ih =>
    rw [List.map_cons, List.nodup_cons] at hd
    rw [kvLook]
    cases k with
    | zero =>
      have hk' : p.1 = n := hk
      rw [if_pos hk']; rfl
    | succ k =>
      have hne : p.1 ≠ n := fun e => hd.1 (by
        rw [e, ← hk]
        exact List.mem_map.2 ⟨l[k]'(by simpa using h), List.getElem_mem _, rfl⟩)
      rw [if_neg hne]
      exact ih hd.2 (by simpa using h) hk
theorem kvPut_none {kv : List (ByteArray × Value)} {n : ByteArray} {v : Value} : (∀ p ∈ kv, p.1 ≠ n) → kvPut kv n v = kv ++ [(n, v)] := by
  induction kv with
  | nil => intro _; rfl
  | cons p l ih => intro h; rw [kvPut, if_neg (h p (by simp)), ih fun q hq => h q (by simp [hq])]; rfl
theorem kvPut_at {kv : List (ByteArray × Value)} {n : ByteArray} {v : Value} (hd : (kv.map (·.1)).Nodup) {k : Nat} (h : k < kv.length) (hk : kv[k].1 = n) : kvPut kv n v = kv.set k (n, v) := by
  induction kv generalizing k with
  | nil => exact absurd h (by simp)
  | cons p l ih =>
    rw [List.map_cons, List.nodup_cons] at hd
    rw [kvPut]
    cases k with
    | zero =>
      have hk' : p.1 = n := hk
      rw [if_pos hk']; rfl
    | succ k =>
      have hne : p.1 ≠ n := fun e => hd.1 (by
        rw [e, ← hk]
        exact List.mem_map.2 ⟨l[k]'(by simpa using h), List.getElem_mem _, rfl⟩)
      rw [if_neg hne, ih hd.2 (by simpa using h) hk]
      rfl
theorem kvPut_keys (kv : List (ByteArray × Value)) (n : ByteArray) (v : Value) (hd : (kv.map (·.1)).Nodup) : ((kvPut kv n v).map (·.1)).Nodup := by
  by_cases h : ∀ p ∈ kv, p.1 ≠ n
  · rw [kvPut_none h, List.map_append]
    refine List.nodup_append.2 ⟨hd, by simp, fun a ha b hb => ?_⟩
    obtain ⟨x, hx, rfl⟩ := List.mem_map.1 ha
    simp only [List.map_cons, List.map_nil, List.mem_singleton] at hb
    subst hb
    exact h x hx
  · have : ∃ p ∈ kv, p.1 = n := Classical.byContradiction fun hc => h fun p hp e => hc ⟨p, hp, e⟩
    obtain ⟨p, hp, he⟩ := this
    obtain ⟨k, hk, rfl⟩ := List.mem_iff_getElem.1 hp
    rw [kvPut_at hd hk he, List.map_set]
    have : (kv.map (·.1)).set k n = kv.map (·.1) := by
      rw [← he]
      apply List.ext_getElem (by simp)
      intro i h1 h2
      rw [List.getElem_set]
      split
      · rename_i e; subst e; simp
      · rfl
    simp only at this ⊢
    rw [this]; exact hd

section
variable {P : Program} {w : World} {b : Nat} {kv : List (ByteArray × Value)} {T K E : TypeId}
theorem MapIs.found (es : Array MapEntry) (hs : es.size = kv.length) (he : ∀ i (h : i < kv.length), es[i]? = some (ment kv i h)) (n : ByteArray) :
    (Instr.findNow .string (.string n) es.toList 0 = some none ∧ ∀ p ∈ kv, p.1 ≠ n) ∨ ∃ j, ∃ h : j < kv.length, Instr.findNow .string (.string n) es.toList 0 = some (some (j, kv[j].2)) ∧ kv[j].1 = n := by
  have hk : ∀ x ∈ es.toList, MapKept.IsKey .string x.key := fun x hx => by obtain ⟨i, h, rfl⟩ := ents_toList hs he x hx; trivial
  rcases MapKept.findNow_spec (d := .string) (k := .string n) (by trivial) es.toList 0 hk with ⟨h1, h2⟩ | ⟨j, e, h1, h2, h3⟩
  · refine .inl ⟨h1, fun p hp e => ?_⟩
    obtain ⟨i, hi, rfl⟩ := List.mem_iff_getElem.1 hp
    have hx : ment kv i hi ∈ es.toList := by
      have := he i hi
      rw [Array.mem_toList_iff]
      exact Array.mem_of_getElem? this
    exact h2 _ hx (by rw [ment]; simp [e])
  · have hj : j < kv.length := by
      have := (List.getElem?_eq_some_iff.1 h2).1
      rw [← hs]; simpa using this
    have hej := he j hj
    have h2' : es[j]? = some e := by simpa using h2
    rw [hej] at h2'
    injection h2' with h2'
    subst h2'
    refine .inr ⟨j, hj, ?_, ?_⟩
    · rw [h1, Nat.zero_add]; rfl
    · simpa [ment] using h3
/-- v, ok := m[k] -/
theorem MapIs.run_look (h : MapIs w b kv) (hd : (kv.map (·.1)).Nodup) (hT : P.underlying T = some (.map K E)) (hK : P.underlying K = some .string) {z : Value} (hz : (zeroValue E).run P w = .ok z w) (n : ByteArray) :
    (Instr.lookup T (.map (some b)) (.string n) true).run P w = .ok (.tuple #[(kvLook kv n).getD z, .bool (kvLook kv n).isSome]) w := by
  obtain ⟨es, h0, hs, he⟩ := h
  rcases MapIs.found es hs he n with ⟨h1, h2⟩ | ⟨j, hj, h1, h2⟩
  · rw [kvLook_none h2]
    simp [Instr.lookup, run_underlying hT, MapKept.run_getObj_map h0, MapKept.run_checkKey (d := .string) (k := .string n) hK (by trivial), MapKept.run_findKey hK h1, Result.andThen, hz]
  · rw [kvLook_at hd hj h2]
    simp [Instr.lookup, run_underlying hT, MapKept.run_getObj_map h0, MapKept.run_checkKey (d := .string) (k := .string n) hK (by trivial), MapKept.run_findKey hK h1, Result.andThen]
/-- m[k] = v -/
theorem MapIs.run_put (h : MapIs w b kv) (hd : (kv.map (·.1)).Nodup) (hT : P.underlying T = some (.map K E)) (hK : P.underlying K = some .string) (n : ByteArray) (v : Value) :
    ∃ w', (Instr.mapUpdate T (.map (some b)) (.string n) v).run P w = .ok () w' ∧ MapIs w' b (kvPut kv n v) ∧ w.grownBy w' (some b) ∧ w'.heap.size = w.heap.size := by
  obtain ⟨es, h0, hs, he⟩ := h
  have hg : ∀ o : Obj, w.grownBy { w with heap := w.heap.setIfInBounds b o } (some b) := fun o =>
    ⟨rfl, rfl, rfl, by simp, fun k hk hne => by
      have : k ≠ b := fun e => hne (by rw [e])
      exact (MapKept.heap_set h0).2 k this⟩
  rcases MapIs.found es hs he n with ⟨h1, h2⟩ | ⟨j, hj, h1, h2⟩
  · rw [kvPut_none h2]
    refine ⟨_, by
      simp [Instr.mapUpdate, run_underlying hT, MapKept.run_getObj_map h0, MapKept.run_checkKey (d := .string) (k := .string n) hK (by trivial), MapKept.run_findKey hK h1, MapKept.run_setObj_map _ h0, Result.andThen]
      rfl, ⟨_, (by rw [List.length_append]; exact (MapKept.heap_set h0).1), by simp [hs], fun i hi => ?_⟩, hg _, by simp⟩
    rw [Array.getElem?_push]
    split
    · rename_i e
      subst e
      simp [ment, hs]
    · rename_i e
      have hi' : i < kv.length := by simp at hi; omega
      rw [he i hi']
      simp [ment, List.getElem_append_left hi']
  · rw [kvPut_at hd hj h2]
    have hej := he j hj
    refine ⟨_, by
      simp [Instr.mapUpdate, run_underlying hT, MapKept.run_getObj_map h0, MapKept.run_checkKey (d := .string) (k := .string n) hK (by trivial), MapKept.run_findKey hK h1, hej, ment, h2, MapKept.run_keyThatStays (d := .string) (k := .string n) (by trivial), MapKept.run_setObj_map _ h0, Result.andThen]
      rfl, ⟨_, (by rw [List.length_set]; exact (MapKept.heap_set h0).1), by simp [hs], fun i hi => ?_⟩, hg _, by simp⟩
    rw [List.length_set] at hi
    rw [Array.getElem?_modify, he i hi]
    by_cases hij : j = i
    · subst hij
      simp [ment]
    · simp [hij, ment]

/-- block r is an iterator over map b, of n entries; the places that it has handed out -/
def ItAt (w : World) (r b n : Nat) (done : List Nat) : Prop := w.heap[r]? = some (.mapIter (some b) n done.toArray n)
theorem ItAt.lt {r n : Nat} {done : List Nat} (h : ItAt w r b n done) : r < w.heap.size := lt_of_heap h
theorem ItAt.grown {w' : World} {r n : Nat} {done : List Nat} {row : Option Nat} (h : ItAt w r b n done) (hg : w.grownBy w' row) (hn : some r ≠ row) : ItAt w' r b n done := (hg.block r h.lt hn).trans h
theorem ItAt.keep {w' : World} {r n : Nat} {done : List Nat} (h : ItAt w r b n done) (hk : Keeps (· = r) w w') : ItAt w' r b n done := (hk.block r rfl h.lt).trans h
theorem MapIs.run_range (h : MapIs w b kv) (hT : P.underlying T = some (.map K E)) :
    (Instr.range T (.map (some b))).run P w = .ok (.pointer (some ⟨w.heap.size, 0, none⟩)) (w.alloc (.mapIter (some b) kv.length #[] kv.length)) := by
  obtain ⟨es, h0, hs, he⟩ := h
  exact run_range_map w T K E b es kv.length hT h0
theorem nodup_sub {l : List Nat} : ∀ {k : List Nat}, l.Nodup → (∀ x ∈ l, x ∈ k) → l.length ≤ k.length := by
  induction l with
  | nil => intro k _ _; simp
  | cons a l ih =>
    intro k hn hs
    rw [List.nodup_cons] at hn
    have ha := hs a (by simp)
    have := ih (k := k.erase a) hn.2 fun x hx => (List.mem_erase_of_ne (fun e => hn.1 (by rw [← e]; exact hx))).2 (hs x (by simp [hx]))
    rw [List.length_erase_of_mem ha] at this
    have : 0 < k.length := List.length_pos_of_mem ha
    simp; omega
theorem nodup_le {n : Nat} {l : List Nat} (hn : l.Nodup) (hl : ∀ i ∈ l, i < n) : l.length ≤ n := by
  have := nodup_sub (k := List.range n) hn fun i hi => List.mem_range.2 (hl i hi)
  simpa using this
theorem nodup_lt {n : Nat} {l : List Nat} (hn : l.Nodup) (hl : ∀ i ∈ l, i < n) (hc : l.length = n) : ∀ i, i < n → i ∈ l := by
  intro i hi
  refine Classical.byContradiction fun hm => ?_
  have := nodup_le (n := n) (l := i :: l) (List.nodup_cons.2 ⟨hm, hn⟩) fun j hj => by
    rcases List.mem_cons.1 hj with rfl | hj
    · exact hi
    · exact hl j hj
  simp at this
  omega
/-- the step: all have been handed out, or one that has not is -/
theorem MapIs.run_next (h : MapIs w b kv) {r : Nat} {done : List Nat} (hr : ItAt w r b kv.length done) (hrb : r ≠ b) (hdn : done.Nodup) (hdl : ∀ i ∈ done, i < kv.length) (ty : TypeId) :
    (done.length = kv.length ∧ (Instr.next (.pointer (some ⟨r, 0, none⟩)) false ty).run P w = .ok (.tuple #[.bool false]) w) ∨
    ∃ i, ∃ hi : i < kv.length, i ∉ done ∧ ∃ w', (Instr.next (.pointer (some ⟨r, 0, none⟩)) false ty).run P w = .ok (.tuple #[.bool true, .string kv[i].1, kv[i].2]) w' ∧ ItAt w' r b kv.length (done ++ [i]) ∧ w.grownBy w' (some r) ∧ w'.heap.size = w.heap.size ∧ MapIs w' b kv ∧
      (Instr.entry (.pointer (some ⟨r, 0, none⟩))).run P w' = .ok (.tuple #[.string kv[i].1, kv[i].2]) w' := by
  have hM := h
  obtain ⟨es, h0, hs, he⟩ := h
  have hborn : ∀ x ∈ es.toList, x.born < kv.length := fun x hx => by obtain ⟨i, hi, rfl⟩ := ents_toList hs he x hx; exact hi
  have hnd : (es.toList.map (·.born)) = List.range kv.length := by
    apply List.ext_getElem?
    intro i
    rw [List.getElem?_map, Array.getElem?_toList]
    by_cases hi : i < kv.length
    · rw [he i hi]; simp [ment, hi]
    · rw [Array.getElem?_eq_none (by omega)]; simp; omega
  unfold ItAt at hr
  have ht := next_test_false done.toArray es kv.length kv.length hborn (Nat.le_refl _)
  have key : (Instr.next (.pointer (some ⟨r, 0, none⟩)) false ty).run P w = ((do
      let candidates := (if (leftOf es done.toArray).isEmpty then #[none] else #[]) ++ (leftOf es done.toArray).map some
      match candidates[← choose (.mapNext candidates.size)]? with
      | some (some e) =>
        setObj r (.mapIter (some b) kv.length (done.toArray.push e.born) kv.length)
        pure (.tuple #[.bool true, e.key, e.val])
      | some none => pure (.tuple #[.bool false])
      | none => stuck "Next: no such candidate") : Sem Value).run P w := by
    have hmem : ∀ x ∈ (leftOf es done.toArray).toList, x.born < kv.length := fun x hx => hborn x (mem_left hx).1
    simp only [Instr.next, getObj, Sem.run_bind, Sem.run, hr, h0, Result.andThen, ht, Bool.false_eq_true, if_false]
    change _ = _
    have e1 : (es.filter fun e => !done.toArray.contains e.born) = leftOf es done.toArray := rfl
    rw [e1]
    generalize leftOf es done.toArray = L at hmem ⊢
    have f1 : L.filter (fun x => decide (x.born < kv.length)) = L := Array.filter_eq_self.2 (fun x hx => by simpa using hmem x (by simpa using hx))
    have f2 : L.filter (fun x => decide (x.born ≥ kv.length)) = #[] := by
      rw [Array.filter_eq_empty_iff]
      intro x hx
      have := hmem x (by simpa using hx)
      simp
      omega
    simp only [f1, f2, Array.append_empty]
    rfl
  by_cases hz : (leftOf es done.toArray).size = 0
  · left
    have hall := all_seen es done.toArray hz
    have hin : ∀ i, i < kv.length → i ∈ done := fun i hi => by
      have hx : ment kv i hi ∈ es.toList := by rw [Array.mem_toList_iff]; exact Array.mem_of_getElem? (he i hi)
      have := hall _ hx
      simpa [ment] using this
    refine ⟨Nat.le_antisymm (nodup_le hdn hdl) ?_, ?_⟩
    · have := nodup_sub (l := List.range kv.length) (k := done) List.nodup_range fun i hi => hin i (List.mem_range.1 hi)
      simpa using this
    · have hL : leftOf es done.toArray = #[] := Array.eq_empty_of_size_eq_zero hz
      rw [key, hL]
      simp [choose, Sem.run, Question.forced]
  · right
    have hne : (leftOf es done.toArray).isEmpty = false := by simp [Array.isEmpty, hz]
    have hch : ∃ (j : Nat) (w1 : World), ∃ hj : j < (leftOf es done.toArray).size, w1.heap = w.heap ∧ w1.os = w.os ∧ w1.tape = w.tape ∧ w1.output = w.output ∧ (choose (Question.mapNext (leftOf es done.toArray).size)).run P w = .ok j w1 := by
      by_cases hf : (leftOf es done.toArray).size ≤ 1
      · exact ⟨0, w, by omega, rfl, rfl, rfl, rfl, by simp [choose, Sem.run, Question.forced, hf]⟩
      · exact ⟨_, w.drew, Nat.mod_lt _ (by omega), rfl, rfl, rfl, rfl, by
          simp only [choose, Sem.run, Question.forced, decide_eq_true_eq, hf, if_false, Question.cut]
          rfl⟩
    obtain ⟨j, w1, hj, hh, ho, htp, hou, hrun⟩ := hch
    have hmem : (leftOf es done.toArray)[j] ∈ (leftOf es done.toArray).toList := by simp
    obtain ⟨hx1, hx2⟩ := mem_left hmem
    obtain ⟨i, hi, hei⟩ := ents_toList hs he _ hx1
    have hnotin : i ∉ done := by rw [hei] at hx2; simpa [ment] using hx2
    have h0' : w1.heap[r]? = some (.mapIter (some b) kv.length done.toArray kv.length) := by rw [hh]; exact hr
    have hset := MapKept.heap_set (o' := .mapIter (some b) kv.length (done.toArray.push i) kv.length) h0'
    have hrs : (setObj r (.mapIter (some b) kv.length (done.toArray.push i) kv.length)).run P w1 = .ok () { w1 with heap := w1.heap.setIfInBounds r (.mapIter (some b) kv.length (done.toArray.push i) kv.length) } := by simp [setObj, Sem.run, h0']
    have hbw : ({ w1 with heap := w1.heap.setIfInBounds r (.mapIter (some b) kv.length (done.toArray.push i) kv.length) } : World).heap[b]? = some (.map es kv.length) := (hset.2 b (Ne.symm hrb)).trans (by rw [hh]; exact h0)
    refine ⟨i, hi, hnotin, { w1 with heap := w1.heap.setIfInBounds r (.mapIter (some b) kv.length (done.toArray.push i) kv.length) }, ?_, ?_, ⟨ho, htp, hou, by simp [hh], fun k hk hn => ?_⟩, by simp [hh], ⟨es, hbw, hs, he⟩, ?_⟩
    · rw [key]
      simp only [hne, Bool.false_eq_true, if_false, Array.empty_append, Array.size_map, Sem.run_bind, hrun, Result.andThen, Array.getElem?_map, Array.getElem?_eq_getElem hj, Option.map_some, hei, ment]
      simp only [hrs]
      rfl
    · rw [ItAt]
      refine hset.1.trans ?_
      simp
    · have : k ≠ r := fun e => hn (by rw [e])
      exact (hset.2 k this).trans (by rw [hh])
    · have hf : es.find? (·.born == i) = some (ment kv i hi) := by
        rw [← Array.find?_toList]
        have := find_born (ment kv i hi) es.toList (by rw [hnd]; exact List.nodup_range) (by rw [Array.mem_toList_iff]; exact Array.mem_of_getElem? (he i hi))
        exact this
      have hrr : ({ w1 with heap := w1.heap.setIfInBounds r (.mapIter (some b) kv.length (done.toArray.push i) kv.length) } : World).heap[r]? = some (.mapIter (some b) kv.length (done.toArray.push i) kv.length) := hset.1
      simp only [Instr.entry, getObj, Sem.run_bind, Sem.run, hrr, hbw, Result.andThen, Array.back?_push, bne_self_eq_false, Bool.false_eq_true, if_false, hf]
      rfl
end

section
variable {P : Program} {ops : Array Oper} {rest : List Oper} {o : Oper} {a : Act} {w : World} {Q : Exit → Act → World → Prop} {b : Nat} {kv : List (ByteArray × Value)} {T K E : TypeId}
/-- .. at the list of a plain region's operations -/
theorem wpList_put (hg : o.guard = none) (m x v : Operand) (hop : o.op = Op.mapUpdate T m x v) (h : MapIs w b kv) (hd : (kv.map (·.1)).Nodup) (hT : P.underlying T = some (.map K E)) (hK : P.underlying K = some .string) {n : ByteArray} {u : Value}
    (hm : a.eval m = .map (some b)) (hx : a.eval x = .string n) (hv : a.eval v = u)
    (hC : ∀ w', MapIs w' b (kvPut kv n u) → w.grownBy w' (some b) → w'.heap.size = w.heap.size → wpList P ops Q rest (a.put o.dst undef) w') : wpList P ops Q (o :: rest) a w := by
  refine wpList_plain hg fun K' hK' => ?_
  obtain ⟨w', hrun, h1, h2, h3⟩ := h.run_put (P := P) hd hT hK n u
  unfold Oper.wp
  simp [execOp, hop, hm, hx, hv, hrun, Result.andThen]
  exact hK' _ _ (hC w' h1 h2 h3)
theorem wpList_look (hg : o.guard = none) (m x : Operand) (hop : o.op = Op.lookup T m x true) (h : MapIs w b kv) (hd : (kv.map (·.1)).Nodup) (hT : P.underlying T = some (.map K E)) (hK : P.underlying K = some .string) {z : Value} (hz : (zeroValue E).run P w = .ok z w) {n : ByteArray}
    (hm : a.eval m = .map (some b)) (hx : a.eval x = .string n)
    (hC : wpList P ops Q rest (a.put o.dst (.tuple #[(kvLook kv n).getD z, .bool (kvLook kv n).isSome])) w) : wpList P ops Q (o :: rest) a w := by
  refine wpList_plain hg fun K' hK' => ?_
  have hrun := h.run_look (P := P) hd hT hK hz n
  unfold Oper.wp
  simp [execOp, hop, hm, hx, hrun, Result.andThen]
  exact hK' _ _ hC
theorem wpList_rng (hg : o.guard = none) (m : Operand) (hop : o.op = Op.range T m) (h : MapIs w b kv) (hT : P.underlying T = some (.map K E)) (hm : a.eval m = .map (some b))
    (hC : ItAt (w.alloc (.mapIter (some b) kv.length #[] kv.length)) w.heap.size b kv.length [] → MapIs (w.alloc (.mapIter (some b) kv.length #[] kv.length)) b kv → wpList P ops Q rest (a.put o.dst (.pointer (some ⟨w.heap.size, 0, none⟩))) (w.alloc (.mapIter (some b) kv.length #[] kv.length))) : wpList P ops Q (o :: rest) a w := by
  refine wpList_plain hg fun K' hK' => ?_
  have hrun := h.run_range (P := P) hT
  unfold Oper.wp
  simp [execOp, hop, hm, hrun, Result.andThen]
  exact hK' _ _ (hC (heap_alloc_new w _) (h.keep ((Keeps.refl _ _).alloc _)))
theorem wpList_nxt (hg : o.guard = none) (it : Operand) (hop : o.op = Op.next it false) (h : MapIs w b kv) {r : Nat} {done : List Nat} (hr : ItAt w r b kv.length done) (hrb : r ≠ b) (hdn : done.Nodup) (hdl : ∀ i ∈ done, i < kv.length) (hit : a.eval it = .pointer (some ⟨r, 0, none⟩))
    (hDone : done.length = kv.length → wpList P ops Q rest (a.put o.dst (.tuple #[.bool false])) w)
    (hMore : ∀ i (hi : i < kv.length) w', i ∉ done → ItAt w' r b kv.length (done ++ [i]) → w.grownBy w' (some r) → w'.heap.size = w.heap.size → MapIs w' b kv → (Instr.entry (.pointer (some ⟨r, 0, none⟩))).run P w' = .ok (.tuple #[.string kv[i].1, kv[i].2]) w' →
      wpList P ops Q rest (a.put o.dst (.tuple #[.bool true, .string kv[i].1, kv[i].2])) w') : wpList P ops Q (o :: rest) a w := by
  refine wpList_plain hg fun K' hK' => ?_
  unfold Oper.wp
  rcases h.run_next (P := P) hr hrb hdn hdl o.type with ⟨h1, hrun⟩ | ⟨i, hi, hni, w', hrun, h2, h3, h4, h5, h6⟩
  · simp [execOp, hop, hit, hrun, Result.andThen]
    exact hK' _ _ (hDone h1)
  · simp [execOp, hop, hit, hrun, Result.andThen]
    exact hK' _ _ (hMore i hi w' hni h2 h3 h4 h5 h6)
end
end Go.Proofs.YtglhbaigigdeeaaDoor
