/- Several texts in one file. -/
import Derived.Test.YtglhbaigigdeeaaGreatQ01
import Derived.Test.YtglhbaigigdeeaaGreatQ05
import Derived.MapKept
import Derived.Maps.RangeWalk
import Derived.Laws.IdiomRangeMap
import Derived.Test.YtglhbaigigdeeaaGreatQ02
import Derived.Deep.RegionHeld
import Derived.Test.YtglhbaigigdeeaaGreatRows
import Derived.Test.YtglhbaigigdeeaaGreatQ03
import Derived.WalkSpells
import Derived.WalkLawsBesides
import Derived.Deep.AppendLies
/- Maps from strings that a call makes: their memory, by a list of names and values in the order of their coming. -/
namespace Go.Proofs.YtglhbaigigdeeaaGreat
set_option maxRecDepth 100000
open Go.RowKit

/-- entry i of the list -/
def ment (kv : List (ByteArray × Value)) (i : Nat) (h : i < kv.length) : MapEntry := { key := .string kv[i].1, val := kv[i].2, born := i }
/-- block b is a map that holds the list -/
def MapIs (w : World) (b : Nat) (kv : List (ByteArray × Value)) : Prop :=
  ∃ es : Array MapEntry, w.heap[b]? = some (.map es kv.length) ∧ es.size = kv.length ∧ ∀ i (h : i < kv.length), es[i]? = some (ment kv i h)
def kvLook : List (ByteArray × Value) → ByteArray → Option Value
  | [], _ => none
  | p :: l, n => if p.1 = n then some p.2 else kvLook l n
def kvPut : List (ByteArray × Value) → ByteArray → Value → List (ByteArray × Value)
  | [], n, v => [(n, v)]
  | p :: l, n, v => if p.1 = n then (n, v) :: l else p :: kvPut l n v

theorem MapIs.lt {w : World} {b : Nat} {kv : List (ByteArray × Value)} (h : MapIs w b kv) : b < w.heap.size := by
  obtain ⟨es, h0, _⟩ := h; exact lt_of_heap h0
theorem MapIs.made (w : World) : MapIs (w.alloc (.map #[] 0)) w.heap.size [] := ⟨#[], heap_alloc_new w _, rfl, fun i h => absurd h (by simp)⟩
theorem MapIs.keep {w w' : World} {b : Nat} {kv : List (ByteArray × Value)} (h : MapIs w b kv) (hk : Keeps (· = b) w w') : MapIs w' b kv := by
  have hl := h.lt
  obtain ⟨es, h0, h1⟩ := h
  exact ⟨es, (hk.block b rfl hl).trans h0, h1⟩
theorem MapIs.grown {w w' : World} {b : Nat} {row : Option Nat} {kv : List (ByteArray × Value)} (h : MapIs w b kv) (hg : w.grownBy w' row) (hn : some b ≠ row) : MapIs w' b kv := by
  have hl := h.lt
  obtain ⟨es, h0, h1⟩ := h
  exact ⟨es, (hg.block b hl hn).trans h0, h1⟩
theorem ents_toList {es : Array MapEntry} {kv : List (ByteArray × Value)} (hs : es.size = kv.length) (he : ∀ i (h : i < kv.length), es[i]? = some (ment kv i h)) : ∀ x ∈ es.toList, ∃ i h, x = ment kv i h := by
  intro x hx
  obtain ⟨i, hi, rfl⟩ := List.mem_iff_getElem.1 hx
  have hi' : i < kv.length := by rw [← hs]; simpa using hi
  refine ⟨i, hi', ?_⟩
  have := he i hi'
  rw [Array.getElem?_eq_getElem (by omega)] at this
  simpa using this
theorem kvLook_none {kv : List (ByteArray × Value)} {n : ByteArray} : (∀ p ∈ kv, p.1 ≠ n) → kvLook kv n = none := by
  induction kv with
  | nil => intro _; rfl
  | cons p l ih => intro h; rw [kvLook, if_neg (h p (by simp))]; exact ih fun q hq => h q (by simp [hq])
theorem kvLook_at {kv : List (ByteArray × Value)} {n : ByteArray} (hd : (kv.map (·.1)).Nodup) {k : Nat} (h : k < kv.length) (hk : kv[k].1 = n) : kvLook kv n = some kv[k].2 := by
  induction kv generalizing k with
  | nil => exact absurd h (by simp)
  | cons p l ih =>
    rw [List.map_cons, List.nodup_cons] at hd
    rw [kvLook]
    cases k with
    | zero =>
      have hk' : p.1 = n := hk
      rw [if_pos hk']; rfl
    | succ k =>
      have hne : p.1 ≠ n := fun e => hd.1 (by
        rw [e, ← hk]
        exact List.mem_map.2 ⟨l[k]'(by simpa using h), List.getElem_mem _, rfl⟩)
      rw [if_neg hne]
      exact ih hd.2 (by simpa using h) hk
theorem kvPut_none {kv : List (ByteArray × Value)} {n : ByteArray} {v : Value} : (∀ p ∈ kv, p.1 ≠ n) → kvPut kv n v = kv ++ [(n, v)] := by
  induction kv with
  | nil => intro _; rfl
  | cons p l ih => intro h; rw [kvPut, if_neg (h p (by simp)), ih fun q hq => h q (by simp [hq])]; rfl
theorem kvPut_at {kv : List (ByteArray × Value)} {n : ByteArray} {v : Value} (hd : (kv.map (·.1)).Nodup) {k : Nat} (h : k < kv.length) (hk : kv[k].1 = n) : kvPut kv n v = kv.set k (n, v) := by
  induction kv generalizing k with
  | nil => exact absurd h (by simp)
  | cons p l ih =>
    rw [List.map_cons, List.nodup_cons] at hd
    rw [kvPut]
    cases k with
    | zero =>
      have hk' : p.1 = n := hk
      rw [if_pos hk']; rfl
    | succ k =>
      have hne : p.1 ≠ n := fun e => hd.1 (by
        rw [e, ← hk]
        exact List.mem_map.2 ⟨l[k]'(by simpa using h), List.getElem_mem _, rfl⟩)
      rw [if_neg hne, ih hd.2 (by simpa using h) hk]
      rfl
theorem kvPut_keys (kv : List (ByteArray × Value)) (n : ByteArray) (v : Value) (hd : (kv.map (·.1)).Nodup) : ((kvPut kv n v).map (·.1)).Nodup := by
  by_cases h : ∀ p ∈ kv, p.1 ≠ n
  · rw [kvPut_none h, List.map_append]
    refine List.nodup_append.2 ⟨hd, by simp, fun a ha b hb => ?_⟩
    obtain ⟨x, hx, rfl⟩ := List.mem_map.1 ha
    simp only [List.map_cons, List.map_nil, List.mem_singleton] at hb
    subst hb
    exact h x hx
  · have : ∃ p ∈ kv, p.1 = n := Classical.byContradiction fun hc => h fun p hp e => hc ⟨p, hp, e⟩
    obtain ⟨p, hp, he⟩ := this
    obtain ⟨k, hk, rfl⟩ := List.mem_iff_getElem.1 hp
    rw [kvPut_at hd hk he, List.map_set]
    have : (kv.map (·.1)).set k n = kv.map (·.1) := by
      rw [← he]
      apply List.ext_getElem (by simp)
      intro i h1 h2
      rw [List.getElem_set]
      split
      · rename_i e; subst e; simp
      · rfl
    simp only at this ⊢
    rw [this]; exact hd

section
variable {P : Program} {w : World} {b : Nat} {kv : List (ByteArray × Value)} {T K E : TypeId}
theorem MapIs.found (es : Array MapEntry) (hs : es.size = kv.length) (he : ∀ i (h : i < kv.length), es[i]? = some (ment kv i h)) (n : ByteArray) :
    (Instr.findNow .string (.string n) es.toList 0 = some none ∧ ∀ p ∈ kv, p.1 ≠ n) ∨ ∃ j, ∃ h : j < kv.length, Instr.findNow .string (.string n) es.toList 0 = some (some (j, kv[j].2)) ∧ kv[j].1 = n := by
  have hk : ∀ x ∈ es.toList, MapKept.IsKey .string x.key := fun x hx => by obtain ⟨i, h, rfl⟩ := ents_toList hs he x hx; trivial
  rcases MapKept.findNow_spec (d := .string) (k := .string n) (by trivial) es.toList 0 hk with ⟨h1, h2⟩ | ⟨j, e, h1, h2, h3⟩
  · refine .inl ⟨h1, fun p hp e => ?_⟩
    obtain ⟨i, hi, rfl⟩ := List.mem_iff_getElem.1 hp
    have hx : ment kv i hi ∈ es.toList := by
      have := he i hi
      rw [Array.mem_toList_iff]
      exact Array.mem_of_getElem? this
    exact h2 _ hx (by rw [ment]; simp [e])
  · have hj : j < kv.length := by
      have := (List.getElem?_eq_some_iff.1 h2).1
      rw [← hs]; simpa using this
    have hej := he j hj
    have h2' : es[j]? = some e := by simpa using h2
    rw [hej] at h2'
    injection h2' with h2'
    subst h2'
    refine .inr ⟨j, hj, ?_, ?_⟩
    · rw [h1, Nat.zero_add]; rfl
    · simpa [ment] using h3
/-- v, ok := m[k] -/
theorem MapIs.run_look (h : MapIs w b kv) (hd : (kv.map (·.1)).Nodup) (hT : P.underlying T = some (.map K E)) (hK : P.underlying K = some .string) {z : Value} (hz : (zeroValue E).run P w = .ok z w) (n : ByteArray) :
    (Instr.lookup T (.map (some b)) (.string n) true).run P w = .ok (.tuple #[(kvLook kv n).getD z, .bool (kvLook kv n).isSome]) w := by
  obtain ⟨es, h0, hs, he⟩ := h
  rcases MapIs.found es hs he n with ⟨h1, h2⟩ | ⟨j, hj, h1, h2⟩
  · rw [kvLook_none h2]
    simp [Instr.lookup, run_underlying hT, MapKept.run_getObj_map h0, MapKept.run_checkKey (d := .string) (k := .string n) hK (by trivial), MapKept.run_findKey hK h1, Result.andThen, hz]
  · rw [kvLook_at hd hj h2]
    simp [Instr.lookup, run_underlying hT, MapKept.run_getObj_map h0, MapKept.run_checkKey (d := .string) (k := .string n) hK (by trivial), MapKept.run_findKey hK h1, Result.andThen]
/-- m[k] = v -/
theorem MapIs.run_put (h : MapIs w b kv) (hd : (kv.map (·.1)).Nodup) (hT : P.underlying T = some (.map K E)) (hK : P.underlying K = some .string) (n : ByteArray) (v : Value) :
    ∃ w', (Instr.mapUpdate T (.map (some b)) (.string n) v).run P w = .ok () w' ∧ MapIs w' b (kvPut kv n v) ∧ w.grownBy w' (some b) ∧ w'.heap.size = w.heap.size := by
  obtain ⟨es, h0, hs, he⟩ := h
  have hg : ∀ o : Obj, w.grownBy { w with heap := w.heap.setIfInBounds b o } (some b) := fun o =>
    ⟨rfl, rfl, rfl, by simp, fun k hk hne => by
      have : k ≠ b := fun e => hne (by rw [e])
      exact (MapKept.heap_set h0).2 k this⟩
  rcases MapIs.found es hs he n with ⟨h1, h2⟩ | ⟨j, hj, h1, h2⟩
  · rw [kvPut_none h2]
    refine ⟨_, by
      simp [Instr.mapUpdate, run_underlying hT, MapKept.run_getObj_map h0, MapKept.run_checkKey (d := .string) (k := .string n) hK (by trivial), MapKept.run_findKey hK h1, MapKept.run_setObj_map _ h0, Result.andThen]
      rfl, ⟨_, (by rw [List.length_append]; exact (MapKept.heap_set h0).1), by simp [hs], fun i hi => ?_⟩, hg _, by simp⟩
    rw [Array.getElem?_push]
    split
    · rename_i e
      subst e
      simp [ment, hs]
    · rename_i e
      have hi' : i < kv.length := by simp at hi; omega
      rw [he i hi']
      simp [ment, List.getElem_append_left hi']
  · rw [kvPut_at hd hj h2]
    have hej := he j hj
    refine ⟨_, by
      simp [Instr.mapUpdate, run_underlying hT, MapKept.run_getObj_map h0, MapKept.run_checkKey (d := .string) (k := .string n) hK (by trivial), MapKept.run_findKey hK h1, hej, ment, h2, MapKept.run_keyThatStays (d := .string) (k := .string n) (by trivial), MapKept.run_setObj_map _ h0, Result.andThen]
      rfl, ⟨_, (by rw [List.length_set]; exact (MapKept.heap_set h0).1), by simp [hs], fun i hi => ?_⟩, hg _, by simp⟩
    rw [List.length_set] at hi
    rw [Array.getElem?_modify, he i hi]
    by_cases hij : j = i
    · subst hij
      simp [ment]
    · simp [hij, ment]

/-- block r is an iterator over map b, of n entries; the places that it has handed out -/
def ItAt (w : World) (r b n : Nat) (done : List Nat) : Prop := w.heap[r]? = some (.mapIter (some b) n done.toArray n)
theorem ItAt.lt {r n : Nat} {done : List Nat} (h : ItAt w r b n done) : r < w.heap.size := lt_of_heap h
theorem ItAt.grown {w' : World} {r n : Nat} {done : List Nat} {row : Option Nat} (h : ItAt w r b n done) (hg : w.grownBy w' row) (hn : some r ≠ row) : ItAt w' r b n done := (hg.block r h.lt hn).trans h
theorem ItAt.keep {w' : World} {r n : Nat} {done : List Nat} (h : ItAt w r b n done) (hk : Keeps (· = r) w w') : ItAt w' r b n done := (hk.block r rfl h.lt).trans h
theorem MapIs.run_range (h : MapIs w b kv) (hT : P.underlying T = some (.map K E)) :
    (Instr.range T (.map (some b))).run P w = .ok (.pointer (some ⟨w.heap.size, 0, none⟩)) (w.alloc (.mapIter (some b) kv.length #[] kv.length)) := by
  obtain ⟨es, h0, hs, he⟩ := h
  exact run_range_map w T K E b es kv.length hT h0
theorem nodup_sub {l : List Nat} : ∀ {k : List Nat}, l.Nodup → (∀ x ∈ l, x ∈ k) → l.length ≤ k.length := by
  induction l with
  | nil => intro k _ _; simp
  | cons a l ih =>
    intro k hn hs
    rw [List.nodup_cons] at hn
    have ha := hs a (by simp)
    have := ih (k := k.erase a) hn.2 fun x hx => (List.mem_erase_of_ne (fun e => hn.1 (by rw [← e]; exact hx))).2 (hs x (by simp [hx]))
    rw [List.length_erase_of_mem ha] at this
    have : 0 < k.length := List.length_pos_of_mem ha
    simp; omega
theorem nodup_le {n : Nat} {l : List Nat} (hn : l.Nodup) (hl : ∀ i ∈ l, i < n) : l.length ≤ n := by
  have := nodup_sub (k := List.range n) hn fun i hi => List.mem_range.2 (hl i hi)
  simpa using this
theorem nodup_lt {n : Nat} {l : List Nat} (hn : l.Nodup) (hl : ∀ i ∈ l, i < n) (hc : l.length = n) : ∀ i, i < n → i ∈ l := by
  intro i hi
  refine Classical.byContradiction fun hm => ?_
  have := nodup_le (n := n) (l := i :: l) (List.nodup_cons.2 ⟨hm, hn⟩) fun j hj => by
    rcases List.mem_cons.1 hj with rfl | hj
    · exact hi
    · exact hl j hj
  simp at this
  omega
/-- the step: all have been handed out, or one that has not is -/
theorem MapIs.run_next (h : MapIs w b kv) {r : Nat} {done : List Nat} (hr : ItAt w r b kv.length done) (hrb : r ≠ b) (hdn : done.Nodup) (hdl : ∀ i ∈ done, i < kv.length) (ty : TypeId) :
    (done.length = kv.length ∧ (Instr.next (.pointer (some ⟨r, 0, none⟩)) false ty).run P w = .ok (.tuple #[.bool false]) w) ∨
    ∃ i, ∃ hi : i < kv.length, i ∉ done ∧ ∃ w', (Instr.next (.pointer (some ⟨r, 0, none⟩)) false ty).run P w = .ok (.tuple #[.bool true, .string kv[i].1, kv[i].2]) w' ∧ ItAt w' r b kv.length (done ++ [i]) ∧ w.grownBy w' (some r) ∧ w'.heap.size = w.heap.size ∧ MapIs w' b kv ∧
      (Instr.entry (.pointer (some ⟨r, 0, none⟩))).run P w' = .ok (.tuple #[.string kv[i].1, kv[i].2]) w' := by
  have hM := h
  obtain ⟨es, h0, hs, he⟩ := h
  have hborn : ∀ x ∈ es.toList, x.born < kv.length := fun x hx => by obtain ⟨i, hi, rfl⟩ := ents_toList hs he x hx; exact hi
  have hnd : (es.toList.map (·.born)) = List.range kv.length := by
    apply List.ext_getElem?
    intro i
    rw [List.getElem?_map, Array.getElem?_toList]
    by_cases hi : i < kv.length
    · rw [he i hi]; simp [ment, hi]
    · rw [Array.getElem?_eq_none (by omega)]; simp; omega
  unfold ItAt at hr
  have ht := next_test_false done.toArray es kv.length kv.length hborn (Nat.le_refl _)
  have key : (Instr.next (.pointer (some ⟨r, 0, none⟩)) false ty).run P w = ((do
      let candidates := (if (leftOf es done.toArray).isEmpty then #[none] else #[]) ++ (leftOf es done.toArray).map some
      match candidates[← choose (.mapNext candidates.size)]? with
      | some (some e) =>
        setObj r (.mapIter (some b) kv.length (done.toArray.push e.born) kv.length)
        pure (.tuple #[.bool true, e.key, e.val])
      | some none => pure (.tuple #[.bool false])
      | none => stuck "Next: no such candidate") : Sem Value).run P w := by
    have hmem : ∀ x ∈ (leftOf es done.toArray).toList, x.born < kv.length := fun x hx => hborn x (mem_left hx).1
    simp only [Instr.next, getObj, Sem.run_bind, Sem.run, hr, h0, Result.andThen, ht, Bool.false_eq_true, if_false]
    change _ = _
    have e1 : (es.filter fun e => !done.toArray.contains e.born) = leftOf es done.toArray := rfl
    rw [e1]
    generalize leftOf es done.toArray = L at hmem ⊢
    have f1 : L.filter (fun x => decide (x.born < kv.length)) = L := Array.filter_eq_self.2 (fun x hx => by simpa using hmem x (by simpa using hx))
    have f2 : L.filter (fun x => decide (x.born ≥ kv.length)) = #[] := by
      rw [Array.filter_eq_empty_iff]
      intro x hx
      have := hmem x (by simpa using hx)
      simp
      omega
    simp only [f1, f2, Array.append_empty]
    rfl
  by_cases hz : (leftOf es done.toArray).size = 0
  · left
    have hall := all_seen es done.toArray hz
    have hin : ∀ i, i < kv.length → i ∈ done := fun i hi => by
      have hx : ment kv i hi ∈ es.toList := by rw [Array.mem_toList_iff]; exact Array.mem_of_getElem? (he i hi)
      have := hall _ hx
      simpa [ment] using this
    refine ⟨Nat.le_antisymm (nodup_le hdn hdl) ?_, ?_⟩
    · have := nodup_sub (l := List.range kv.length) (k := done) List.nodup_range fun i hi => hin i (List.mem_range.1 hi)
      simpa using this
    · have hL : leftOf es done.toArray = #[] := Array.eq_empty_of_size_eq_zero hz
      rw [key, hL]
      simp [choose, Sem.run, Question.forced]
  · right
    have hne : (leftOf es done.toArray).isEmpty = false := by simp [Array.isEmpty, hz]
    have hch : ∃ (j : Nat) (w1 : World), ∃ hj : j < (leftOf es done.toArray).size, w1.heap = w.heap ∧ w1.os = w.os ∧ w1.tape = w.tape ∧ w1.output = w.output ∧ (choose (Question.mapNext (leftOf es done.toArray).size)).run P w = .ok j w1 := by
      by_cases hf : (leftOf es done.toArray).size ≤ 1
      · exact ⟨0, w, by omega, rfl, rfl, rfl, rfl, by simp [choose, Sem.run, Question.forced, hf]⟩
      · exact ⟨_, w.drew, Nat.mod_lt _ (by omega), rfl, rfl, rfl, rfl, by
          simp only [choose, Sem.run, Question.forced, decide_eq_true_eq, hf, if_false, Question.cut]
          rfl⟩
    obtain ⟨j, w1, hj, hh, ho, htp, hou, hrun⟩ := hch
    have hmem : (leftOf es done.toArray)[j] ∈ (leftOf es done.toArray).toList := by simp
    obtain ⟨hx1, hx2⟩ := mem_left hmem
    obtain ⟨i, hi, hei⟩ := ents_toList hs he _ hx1
    have hnotin : i ∉ done := by rw [hei] at hx2; simpa [ment] using hx2
    have h0' : w1.heap[r]? = some (.mapIter (some b) kv.length done.toArray kv.length) := by rw [hh]; exact hr
    have hset := MapKept.heap_set (o' := .mapIter (some b) kv.length (done.toArray.push i) kv.length) h0'
    have hrs : (setObj r (.mapIter (some b) kv.length (done.toArray.push i) kv.length)).run P w1 = .ok () { w1 with heap := w1.heap.setIfInBounds r (.mapIter (some b) kv.length (done.toArray.push i) kv.length) } := by simp [setObj, Sem.run, h0']
    have hbw : ({ w1 with heap := w1.heap.setIfInBounds r (.mapIter (some b) kv.length (done.toArray.push i) kv.length) } : World).heap[b]? = some (.map es kv.length) := (hset.2 b (Ne.symm hrb)).trans (by rw [hh]; exact h0)
    refine ⟨i, hi, hnotin, { w1 with heap := w1.heap.setIfInBounds r (.mapIter (some b) kv.length (done.toArray.push i) kv.length) }, ?_, ?_, ⟨ho, htp, hou, by simp [hh], fun k hk hn => ?_⟩, by simp [hh], ⟨es, hbw, hs, he⟩, ?_⟩
    · rw [key]
      simp only [hne, Bool.false_eq_true, if_false, Array.empty_append, Array.size_map, Sem.run_bind, hrun, Result.andThen, Array.getElem?_map, Array.getElem?_eq_getElem hj, Option.map_some, hei, ment]
      simp only [hrs]
      rfl
    · rw [ItAt]
      refine hset.1.trans ?_
      simp
    · have : k ≠ r := fun e => hn (by rw [e])
      exact (hset.2 k this).trans (by rw [hh])
    · have hf : es.find? (·.born == i) = some (ment kv i hi) := by
        rw [← Array.find?_toList]
        have := find_born (ment kv i hi) es.toList (by rw [hnd]; exact List.nodup_range) (by rw [Array.mem_toList_iff]; exact Array.mem_of_getElem? (he i hi))
        exact this
      have hrr : ({ w1 with heap := w1.heap.setIfInBounds r (.mapIter (some b) kv.length (done.toArray.push i) kv.length) } : World).heap[r]? = some (.mapIter (some b) kv.length (done.toArray.push i) kv.length) := hset.1
      simp only [Instr.entry, getObj, Sem.run_bind, Sem.run, hrr, hbw, Result.andThen, Array.back?_push, bne_self_eq_false, Bool.false_eq_true, if_false, hf]
      rfl
end

section
variable {P : Program} {ops : Array Oper} {rest : List Oper} {o : Oper} {a : Act} {w : World} {Q : Exit → Act → World → Prop} {b : Nat} {kv : List (ByteArray × Value)} {T K E : TypeId}
/-- .. at the list of a plain region's operations -/
theorem wpList_put (hg : o.guard = none) (m x v : Operand) (hop : o.op = Op.mapUpdate T m x v) (h : MapIs w b kv) (hd : (kv.map (·.1)).Nodup) (hT : P.underlying T = some (.map K E)) (hK : P.underlying K = some .string) {n : ByteArray} {u : Value}
    (hm : a.eval m = .map (some b)) (hx : a.eval x = .string n) (hv : a.eval v = u)
    (hC : ∀ w', MapIs w' b (kvPut kv n u) → w.grownBy w' (some b) → w'.heap.size = w.heap.size → wpList P ops Q rest (a.put o.dst undef) w') : wpList P ops Q (o :: rest) a w := by
  refine wpList_plain hg fun K' hK' => ?_
  obtain ⟨w', hrun, h1, h2, h3⟩ := h.run_put (P := P) hd hT hK n u
  unfold Oper.wp
  simp [execOp, hop, hm, hx, hv, hrun, Result.andThen]
  exact hK' _ _ (hC w' h1 h2 h3)
theorem wpList_look (hg : o.guard = none) (m x : Operand) (hop : o.op = Op.lookup T m x true) (h : MapIs w b kv) (hd : (kv.map (·.1)).Nodup) (hT : P.underlying T = some (.map K E)) (hK : P.underlying K = some .string) {z : Value} (hz : (zeroValue E).run P w = .ok z w) {n : ByteArray}
    (hm : a.eval m = .map (some b)) (hx : a.eval x = .string n)
    (hC : wpList P ops Q rest (a.put o.dst (.tuple #[(kvLook kv n).getD z, .bool (kvLook kv n).isSome])) w) : wpList P ops Q (o :: rest) a w := by
  refine wpList_plain hg fun K' hK' => ?_
  have hrun := h.run_look (P := P) hd hT hK hz n
  unfold Oper.wp
  simp [execOp, hop, hm, hx, hrun, Result.andThen]
  exact hK' _ _ hC
theorem wpList_rng (hg : o.guard = none) (m : Operand) (hop : o.op = Op.range T m) (h : MapIs w b kv) (hT : P.underlying T = some (.map K E)) (hm : a.eval m = .map (some b))
    (hC : ItAt (w.alloc (.mapIter (some b) kv.length #[] kv.length)) w.heap.size b kv.length [] → MapIs (w.alloc (.mapIter (some b) kv.length #[] kv.length)) b kv → wpList P ops Q rest (a.put o.dst (.pointer (some ⟨w.heap.size, 0, none⟩))) (w.alloc (.mapIter (some b) kv.length #[] kv.length))) : wpList P ops Q (o :: rest) a w := by
  refine wpList_plain hg fun K' hK' => ?_
  have hrun := h.run_range (P := P) hT
  unfold Oper.wp
  simp [execOp, hop, hm, hrun, Result.andThen]
  exact hK' _ _ (hC (heap_alloc_new w _) (h.keep ((Keeps.refl _ _).alloc _)))
theorem wpList_nxt (hg : o.guard = none) (it : Operand) (hop : o.op = Op.next it false) (h : MapIs w b kv) {r : Nat} {done : List Nat} (hr : ItAt w r b kv.length done) (hrb : r ≠ b) (hdn : done.Nodup) (hdl : ∀ i ∈ done, i < kv.length) (hit : a.eval it = .pointer (some ⟨r, 0, none⟩))
    (hDone : done.length = kv.length → wpList P ops Q rest (a.put o.dst (.tuple #[.bool false])) w)
    (hMore : ∀ i (hi : i < kv.length) w', i ∉ done → ItAt w' r b kv.length (done ++ [i]) → w.grownBy w' (some r) → w'.heap.size = w.heap.size → MapIs w' b kv → (Instr.entry (.pointer (some ⟨r, 0, none⟩))).run P w' = .ok (.tuple #[.string kv[i].1, kv[i].2]) w' →
      wpList P ops Q rest (a.put o.dst (.tuple #[.bool true, .string kv[i].1, kv[i].2])) w') : wpList P ops Q (o :: rest) a w := by
  refine wpList_plain hg fun K' hK' => ?_
  unfold Oper.wp
  rcases h.run_next (P := P) hr hrb hdn hdl o.type with ⟨h1, hrun⟩ | ⟨i, hi, hni, w', hrun, h2, h3, h4, h5, h6⟩
  · simp [execOp, hop, hit, hrun, Result.andThen]
    exact hK' _ _ (hDone h1)
  · simp [execOp, hop, hit, hrun, Result.andThen]
    exact hK' _ _ (hMore i hi w' hni h2 h3 h4 h5 h6)
end
end Go.Proofs.YtglhbaigigdeeaaGreat
/- A region that draws its order, whose last operations wait for all others: the others first. -/
namespace Go.Proofs.YtglhbaigigdeeaaGreat
set_option maxRecDepth 100000

/-- each operation of l is waited for by a later one of l or by each of tl, whose operations wait for one another; no guard leads out of l -/
def lateOk (l tl : List Oper) : Bool :=
  wfDeps l &&
  (l.all fun o => match o.guard with | none => true | some (j, _) => decide (j < l.length)) &&
  ((List.range tl.length).all fun k => match tl[k]? with
    | none => true
    | some o => o.guard.isNone && ((depsOf o).all fun d => decide (d < l.length + k)) && (decide (k = 0) || (depsOf o).contains (l.length + (k - 1))) &&
      (List.range l.length).all fun i => (depsOf o).contains i || (List.range l.length).any fun j => decide (i < j) && (match l[j]? with | some o' => (depsOf o').contains i | none => false))

/-- the last operations, one behind the other -/
def wpTail (P : Program) (Q : Exit → Act → World → Prop) : List Oper → Act → World → Prop
  | [], a, w => Q .normal a w
  | o :: os, a, w => Oper.wp P o a w (wpTail P Q os) Q

def LateQ (P : Program) (Q : Exit → Act → World → Prop) (tl : List Oper) : Exit → Act → World → Prop
  | .normal, a, w => wpTail P Q tl a w
  | .exit i, a, w => Q (.exit i) a w
  | .goto i, a, w => Q (.goto i) a w
  | .ret, a, w => Q .ret a w
  | .panic _, _, _ => False
  | .outgrown, a, w => Q .outgrown a w

theorem wpTail_step {P : Program} {Q : Exit → Act → World → Prop} {o : Oper} {os : List Oper} {a : Act} {w : World} (hg : o.guard = none)
    (h : ∀ K : Act → World → Prop, Shut (∀ a w, wpTail P Q os a w → K a w) → if Region.wanted o (yielded (#[] : Array Oper) a.tmps) = true then Oper.wp P o a w K Q else K (a.put o.dst undef) w) : wpTail P Q (o :: os) a w := by
  have := h (wpTail P Q os) (fun _ _ h => h)
  rw [if_pos (by simp [Region.wanted, hg])] at this
  exact this

theorem mem_depsOf {o : Oper} {d : Nat} : d ∈ depsOf o ↔ ∃ e ∈ o.after, Region.binds .any e = true ∧ e.on = d := by
  unfold depsOf
  rw [List.mem_filterMap]
  constructor
  · rintro ⟨e, he, hx⟩
    split at hx
    · rename_i hb; injection hx with hx; exact ⟨e, by simpa using he, hb, hx⟩
    · cases hx
  · rintro ⟨e, he, hb, rfl⟩
    exact ⟨e, by simpa using he, by simp [hb]⟩

theorem ready_iff {ops : Array Oper} {listed : Array Bool} {i : Nat} : i ∈ Region.ready .any ops listed ↔ i < ops.size ∧ listed.getD i true = false ∧ ∃ o, ops[i]? = some o ∧ ∀ d ∈ depsOf o, listed.getD d false = true := by
  unfold Region.ready
  simp only [List.mem_filter, List.mem_range, Bool.and_eq_true, Bool.not_eq_true']
  constructor
  · rintro ⟨h0, h1, h2⟩
    have ho : ops[i]? = some ops[i] := Array.getElem?_eq_getElem h0
    rw [ho] at h2
    simp only [Option.map_some, Option.getD_some, Array.all_eq_true'] at h2
    refine ⟨h0, h1, _, ho, fun d hd => ?_⟩
    obtain ⟨e, he, hb, rfl⟩ := mem_depsOf.1 hd
    have := h2 e he
    simpa [hb] using this
  · rintro ⟨h0, h1, o, ho, h2⟩
    refine ⟨h0, h1, ?_⟩
    rw [ho]
    simp only [Option.map_some, Option.getD_some, Array.all_eq_true']
    intro e he
    by_cases hb : Region.binds .any e = true
    · have := h2 e.on (mem_depsOf.2 ⟨e, he, hb, rfl⟩)
      simp [this]
    · simp [hb]

theorem Oper.wp_late {P : Program} {Q : Exit → Act → World → Prop} {tl : List Oper} {o : Oper} {a : Act} {w : World} {K K' : Act → World → Prop} (hK : ∀ a w, K a w → K' a w) (h : Oper.wp P o a w K (LateQ P Q tl)) : Oper.wp P o a w K' Q := by
  unfold Oper.wp at h ⊢
  generalize (execOp a.eval o).run P w = r at *
  cases r with
  | ok n w' =>
    cases n <;> simp only [Oper.upon] at h ⊢
    case value v => exact hK _ _ h
    case skip => exact hK _ _ h
    case defer d => exact hK _ _ h
    case enter f args =>
      refine Calls.mono h fun e w'' he => ?_
      cases e with
      | returned u => exact hK _ _ he
      | panicked c => exact (he : False).elim
      | outgrown => obtain ⟨a', w3, h3⟩ := he; exact ⟨a', w3, h3⟩
    case row row args => exact Rows.mono h fun u w'' he => hK _ _ he
  | halt x w' =>
    cases x <;> simp only [Oper.upon] at h ⊢
    case panic v => exact (h : False).elim

section
variable {P : Program} {Q : Exit → Act → World → Prop} {l tl : List Oper}

theorem late_get {i : Nat} (hi : i < l.length) : ((l ++ tl).toArray)[i]? = l.toArray[i]? := by simp [List.getElem?_append_left hi]
theorem late_tl (k : Nat) : ((l ++ tl).toArray)[l.length + k]? = tl[k]? := by
  rw [List.getElem?_toArray, List.getElem?_append_right (by omega), show l.length + k - l.length = k by omega]

/-- the last operations are walked -/
theorem wpAny_tail (hok : lateOk l tl = true) : ∀ (m k fuel : Nat) (a : Act) (w : World), m + k = tl.length → m ≤ fuel → wpTail P Q (tl.drop k) a w →
    wpAny P .any (l ++ tl).toArray Q fuel (Array.replicate (l.length + k) true ++ Array.replicate m false) a w := by
  have hall := hok
  unfold lateOk at hall
  simp only [Bool.and_eq_true] at hall
  obtain ⟨⟨_, _⟩, hT⟩ := hall
  rw [List.all_eq_true] at hT
  intro m
  induction m with
  | zero =>
    intro k fuel a w hm _ h
    have hr : Region.ready .any (l ++ tl).toArray (Array.replicate (l.length + k) true ++ Array.replicate 0 false) = [] := by
      rw [List.eq_nil_iff_forall_not_mem]
      intro i hi
      obtain ⟨h0, h1, _⟩ := ready_iff.1 hi
      simp only [List.size_toArray, List.length_append] at h0
      rw [Array.getD_eq_getD_getElem?] at h1
      simp [show i < l.length + k by omega] at h1
    rw [List.drop_eq_nil_of_le (by omega)] at h
    exact wpAny_done hr h fuel
  | succ m ih =>
    intro k fuel a w hm hf h
    obtain ⟨fuel, rfl⟩ : ∃ f, fuel = f + 1 := ⟨fuel - 1, by omega⟩
    have hk : k < tl.length := by omega
    have hTk := hT k (List.mem_range.2 hk)
    rw [List.getElem?_eq_getElem hk] at hTk
    simp only [Bool.and_eq_true, List.all_eq_true, decide_eq_true_eq] at hTk
    obtain ⟨⟨⟨hg, hd⟩, _⟩, _⟩ := hTk
    have hgd : ∀ d, (Array.replicate (l.length + k) true ++ Array.replicate (m + 1) false).getD d false = decide (d < l.length + k) := by
      intro d
      rw [Array.getD_eq_getD_getElem?, Array.getElem?_append]
      by_cases h1 : d < l.length + k
      · simp [h1]
      · simp only [Array.size_replicate, h1, if_false, Array.getElem?_replicate]
        split <;> simp
    have hgt : ∀ d, d < l.length + k + (m + 1) → (Array.replicate (l.length + k) true ++ Array.replicate (m + 1) false).getD d true = decide (d < l.length + k) := by
      intro d hdl
      rw [Array.getD_eq_getD_getElem?, Array.getElem?_append]
      by_cases h1 : d < l.length + k
      · simp [h1]
      · simp only [Array.size_replicate, h1, if_false, Array.getElem?_replicate]
        rw [if_pos (by omega)]; simp
    have hr : Region.ready .any (l ++ tl).toArray (Array.replicate (l.length + k) true ++ Array.replicate (m + 1) false) = [l.length + k] := by
      have hmem : ∀ i, i ∈ Region.ready .any (l ++ tl).toArray (Array.replicate (l.length + k) true ++ Array.replicate (m + 1) false) ↔ i = l.length + k := by
        intro i
        rw [ready_iff]
        constructor
        · rintro ⟨h0, h1, o, ho, h2⟩
          simp only [List.size_toArray, List.length_append] at h0
          rw [hgt i (by omega)] at h1
          have hge : ¬ i < l.length + k := by simpa using h1
          rcases Nat.lt_or_ge (l.length + k) i with hlt | hge2
          · exfalso
            obtain ⟨j, rfl⟩ : ∃ j, i = l.length + (j + 1) := ⟨i - l.length - 1, by omega⟩
            rw [late_tl] at ho
            have hTj := hT (j + 1) (List.mem_range.2 (by omega))
            rw [ho] at hTj
            simp only [Bool.and_eq_true, Bool.or_eq_true] at hTj
            obtain ⟨⟨_, hc⟩, _⟩ := hTj
            rcases hc with hc | hc
            · simp at hc
            · have hc' : l.length + j ∈ depsOf o := by simpa using hc
              have := h2 _ hc'
              rw [hgd] at this
              simp at this
              omega
          · omega
        · rintro rfl
          refine ⟨by simp; omega, by rw [hgt _ (by omega)]; simp, tl[k], by rw [late_tl, List.getElem?_eq_getElem hk], fun d hdd => ?_⟩
          rw [hgd]
          simpa using hd d hdd
      have hnd : (Region.ready .any (l ++ tl).toArray (Array.replicate (l.length + k) true ++ Array.replicate (m + 1) false)).Nodup := by
        unfold Region.ready
        exact List.Pairwise.filter _ List.nodup_range
      generalize Region.ready .any (l ++ tl).toArray (Array.replicate (l.length + k) true ++ Array.replicate (m + 1) false) = R at hmem hnd
      match R, hmem, hnd with
      | [], hmem, _ => exact absurd ((hmem (l.length + k)).2 rfl) (by simp)
      | [x], hmem, _ => rw [(hmem x).1 (by simp)]
      | x :: y :: r, hmem, hnd =>
        have e1 := (hmem x).1 (by simp)
        have e2 := (hmem y).1 (by simp)
        rw [e1, e2] at hnd
        simp at hnd
    refine wpAny_all hr (by simp) ?_
    intro i hi
    rw [List.mem_singleton] at hi
    subst hi
    have hset : (Array.replicate (l.length + k) true ++ Array.replicate (m + 1) false).setIfInBounds (l.length + k) true = Array.replicate (l.length + (k + 1)) true ++ Array.replicate m false := by
      apply Array.ext_getElem?
      intro j
      simp only [Array.getElem?_setIfInBounds, Array.getElem?_append, Array.getElem?_replicate, Array.size_append, Array.size_replicate]
      by_cases h1 : l.length + k = j
      · subst h1
        simp [show l.length + k < l.length + (k + 1) by omega]
      · rw [if_neg h1]
        by_cases h2 : j < l.length + k
        · simp [h2, show j < l.length + (k + 1) by omega]
        · have h3 : ¬ j < l.length + (k + 1) := by omega
          simp only [h2, h3, if_false]
          by_cases h4 : j - (l.length + k) < m + 1
          · rw [if_pos h4, if_pos (by omega)]
          · rw [if_neg h4, if_neg (by omega)]
    rw [hset]
    rw [List.drop_eq_getElem_cons hk, wpTail] at h
    unfold wpOp
    rw [late_tl, List.getElem?_eq_getElem hk]
    have hw : Region.wanted tl[k] (yielded (l ++ tl).toArray a.tmps) = true := by
      have : tl[k].guard = none := by simpa using hg
      simp [Region.wanted, this]
    simp only [hw, if_true]
    exact .inl (Oper.wp_mono (fun a' w' h' => ih (k + 1) fuel a' w' (by omega) (by omega) h') h)

theorem ready_all (hwf : wfDeps l = true) (listed : Array Bool) (hsz : listed.size = l.length) (hr : Region.ready .any l.toArray listed = []) : listed = Array.replicate l.length true := by
  have key : ∀ i, i < l.length → listed[i]? = some true := by
    intro i
    induction i using Nat.strongRecOn with
    | _ i ih =>
      intro hi
      have hil : i < listed.size := by omega
      have hgi : listed[i]? = some listed[i] := Array.getElem?_eq_getElem hil
      cases hb : listed[i] with
      | true => rw [hgi, hb]
      | false =>
        exfalso
        have hnot : i ∉ Region.ready .any l.toArray listed := by rw [hr]; simp
        refine hnot (ready_iff.2 ⟨by simpa using hi, by rw [Array.getD_eq_getD_getElem?, hgi, hb]; rfl, l[i], by simp [hi], fun d hd => ?_⟩)
        unfold wfDeps at hwf
        rw [List.all_eq_true] at hwf
        have hwi := hwf i (List.mem_range.2 hi)
        rw [List.getElem?_eq_getElem hi] at hwi
        simp only [Option.map_some, Option.getD_some, List.all_eq_true, decide_eq_true_eq] at hwi
        have := ih d (hwi d hd) (by have := hwi d hd; omega)
        rw [Array.getD_eq_getD_getElem?, this]; rfl
  apply Array.ext_getElem?
  intro i
  by_cases hi : i < l.length
  · rw [key i hi]; simp [hi]
  · simp [Array.getElem?_eq_none (show listed.size ≤ i by omega), hi]

theorem wpAny_late (hok : lateOk l tl = true) : ∀ (fuel : Nat) (listed : Array Bool) (a : Act) (w : World), listed.size = l.length →
    (∀ (j : Nat) (o : Oper), listed[j]? = some true → l[j]? = some o → ∀ d ∈ depsOf o, listed[d]? = some true) →
    wpAny P .any l.toArray (LateQ P Q tl) fuel listed a w → wpAny P .any (l ++ tl).toArray Q (fuel + tl.length) (listed ++ Array.replicate tl.length false) a w := by
  have hall := hok
  unfold lateOk at hall
  simp only [Bool.and_eq_true] at hall
  obtain ⟨⟨hwf, hG⟩, hT⟩ := hall
  rw [List.all_eq_true] at hT hG
  have hend : ∀ (fuel : Nat) (listed : Array Bool) (a : Act) (w : World), listed.size = l.length → tl.length ≤ fuel → Region.ready .any l.toArray listed = [] → wpTail P Q tl a w → wpAny P .any (l ++ tl).toArray Q fuel (listed ++ Array.replicate tl.length false) a w := by
    intro fuel listed a w hsz hf hr h
    rw [ready_all hwf listed hsz hr]
    exact wpAny_tail hok tl.length 0 fuel a w rfl hf h
  intro fuel
  induction fuel with
  | zero => intro listed a w hsz _ h; exact hend _ listed a w hsz (by omega) h.1 h.2
  | succ fuel ih =>
    intro listed a w hsz hcl h
    by_cases hr0 : Region.ready .any l.toArray listed = []
    · exact hend _ listed a w hsz (by omega) hr0 (h.1 hr0)
    have hap : ∀ i, i < l.length → (listed ++ Array.replicate tl.length false)[i]? = listed[i]? := fun i hi => by rw [Array.getElem?_append, if_pos (by omega)]
    have hdl : ∀ i o, l[i]? = some o → ∀ d ∈ depsOf o, d < i := by
      intro i o ho d hd
      unfold wfDeps at hwf
      rw [List.all_eq_true] at hwf
      have hil : i < l.length := (List.getElem?_eq_some_iff.1 ho).1
      have hwi := hwf i (List.mem_range.2 hil)
      rw [ho] at hwi
      simp only [Option.map_some, Option.getD_some, List.all_eq_true, decide_eq_true_eq] at hwi
      exact hwi d hd
    -- what may come up is of l
    have hsub : ∀ i, i ∈ Region.ready .any (l ++ tl).toArray (listed ++ Array.replicate tl.length false) → i ∈ Region.ready .any l.toArray listed := by
      intro i hi
      obtain ⟨h0, h1, o, ho, h2⟩ := ready_iff.1 hi
      simp only [List.size_toArray, List.length_append] at h0
      rcases Nat.lt_or_ge i l.length with hil | hil
      · rw [late_get hil] at ho
        refine ready_iff.2 ⟨by simpa using hil, by rw [Array.getD_eq_getD_getElem?, hap i hil] at h1; rw [Array.getD_eq_getD_getElem?]; exact h1, o, ho, fun d hd => ?_⟩
        have hdi := hdl i o (by simpa using ho) d hd
        have := h2 d hd
        rw [Array.getD_eq_getD_getElem?, hap d (by omega)] at this
        rw [Array.getD_eq_getD_getElem?]; exact this
      · exfalso
        obtain ⟨k, rfl⟩ : ∃ k, i = l.length + k := ⟨i - l.length, by omega⟩
        rw [late_tl] at ho
        have hTk := hT k (List.mem_range.2 (by omega))
        rw [ho] at hTk
        simp only [Bool.and_eq_true, List.all_eq_true] at hTk
        have hcov := hTk.2
        have hl : ∀ n i, l.length - i ≤ n → i < l.length → listed[i]? = some true := by
          intro n
          induction n with
          | zero => intro i h h'; omega
          | succ n ihn =>
            intro i hn hi
            have hc := hcov i (List.mem_range.2 hi)
            rw [Bool.or_eq_true] at hc
            rcases hc with hc | hc
            · have hc' : i ∈ depsOf o := by simpa using hc
              have := h2 i hc'
              rw [Array.getD_eq_getD_getElem?, hap i hi, Array.getElem?_eq_getElem (by omega)] at this
              rw [Array.getElem?_eq_getElem (by omega)]
              simpa using this
            · rw [List.any_eq_true] at hc
              obtain ⟨j, hj, hj2⟩ := hc
              rw [List.mem_range] at hj
              rw [List.getElem?_eq_getElem hj] at hj2
              simp only [Bool.and_eq_true, decide_eq_true_eq] at hj2
              have hji : i ∈ depsOf l[j] := by simpa using hj2.2
              exact hcl j l[j] (ihn j (by omega) hj) (List.getElem?_eq_getElem hj) i hji
        apply hr0
        rw [List.eq_nil_iff_forall_not_mem]
        intro i' hi'
        obtain ⟨q0, q1, _⟩ := ready_iff.1 hi'
        have q0' : i' < l.length := by simpa using q0
        rw [Array.getD_eq_getD_getElem?, hl l.length i' (by omega) q0'] at q1
        simp at q1
    rw [show fuel + 1 + tl.length = (fuel + tl.length) + 1 by omega]
    refine ⟨fun hr => ?_, fun i hi => ?_⟩
    · exfalso
      obtain ⟨i, r, hir⟩ := List.exists_cons_of_ne_nil hr0
      have him : i ∈ Region.ready .any l.toArray listed := by rw [hir]; simp
      obtain ⟨h0, h1, o, ho, h2⟩ := ready_iff.1 him
      have hil : i < l.length := by simpa using h0
      have : i ∈ Region.ready .any (l ++ tl).toArray (listed ++ Array.replicate tl.length false) := by
        refine ready_iff.2 ⟨by simp; omega, by rw [Array.getD_eq_getD_getElem?, hap i hil]; rw [Array.getD_eq_getD_getElem?] at h1; exact h1, o, by rw [late_get hil]; exact ho, fun d hd => ?_⟩
        have hdi := hdl i o (by simpa using ho) d hd
        have := h2 d hd
        rw [Array.getD_eq_getD_getElem?, hap d (by omega)]
        rw [Array.getD_eq_getD_getElem?] at this; exact this
      rw [hr] at this
      cases this
    · have hir := hsub i hi
      obtain ⟨h0, h1, o, ho, h2⟩ := ready_iff.1 hir
      have hil : i < l.length := by simpa using h0
      have hop := h.2 i hir
      have hset : (listed ++ Array.replicate tl.length false).setIfInBounds i true = listed.setIfInBounds i true ++ Array.replicate tl.length false := by
        apply Array.ext_getElem?
        intro j
        simp only [Array.getElem?_setIfInBounds, Array.getElem?_append, Array.size_append, Array.size_replicate, Array.size_setIfInBounds]
        by_cases h1 : i = j
        · subst h1
          rw [if_pos rfl, if_pos (by omega), if_pos (by omega), if_pos rfl, if_pos (by omega)]
        · rw [if_neg h1]
          by_cases h3 : j < listed.size
          · rw [if_pos h3, if_pos h3, if_neg h1]
          · rw [if_neg h3, if_neg h3]
      have hcl' : ∀ (j : Nat) (o' : Oper), (listed.setIfInBounds i true)[j]? = some true → l[j]? = some o' → ∀ d ∈ depsOf o', (listed.setIfInBounds i true)[d]? = some true := by
        intro j o' hj ho' d hd
        have hmono : ∀ (d : Nat), listed[d]? = some true → (listed.setIfInBounds i true)[d]? = some true := by
          intro d hd
          rw [Array.getElem?_setIfInBounds]
          split
          · rename_i e; subst e; rw [if_pos (by omega)]
          · exact hd
        apply hmono
        by_cases hij : i = j
        · subst hij
          have : o' = o := by
            have e1 : l.toArray[i]? = some o' := by simpa using ho'
            rw [ho] at e1; injection e1 with e1; exact e1.symm
          subst this
          have := h2 d hd
          rw [Array.getD_eq_getD_getElem?] at this
          cases hx : listed[d]? with
          | none => rw [hx] at this; simp at this
          | some b => rw [hx] at this; simp at this; rw [this]
        · rw [Array.getElem?_setIfInBounds, if_neg hij] at hj
          exact hcl j o' hj ho' d hd
      have hyl : Region.wanted o (yielded (l ++ tl).toArray a.tmps) = Region.wanted o (yielded l.toArray a.tmps) := by
        have hgo := hG o (by have e1 : l[i]? = some o := by simpa using ho
                             exact List.mem_of_getElem? e1)
        unfold Region.wanted
        cases hg : o.guard with
        | none => rfl
        | some g =>
          obtain ⟨j, b⟩ := g
          rw [hg] at hgo
          have hj : j < l.length := by simpa using hgo
          simp only [yielded, late_get hj]
      unfold wpOp at hop ⊢
      rw [late_get hil, ho]
      rw [ho] at hop
      simp only at hop ⊢
      rw [hyl]
      split
      · rename_i hw
        rw [if_pos hw] at hop
        rcases hop with hop | ⟨ha, a', w', hl⟩
        · refine .inl (Oper.wp_late (fun a' w' h' => ?_) hop)
          rw [hset]
          exact ih _ a' w' (by simpa using hsz) hcl' h'
        · exact .inr ⟨ha, a', w', hl⟩
      · rename_i hw
        rw [if_neg hw] at hop
        rw [hset]
        exact ih _ _ w (by simpa using hsz) hcl' hop

/-- what only reads is taken first -/
theorem late_take {ops : Array Oper} {S : World → Prop} {i : Nat} {oi : Oper} {d : Option Tmp} {v : Value} {fuel : Nat} {listed : Array Bool} {a : Act} {w : World} (hi : ops[i]? = some oi) (hd : oi.dst = d)
    (hs : Region.noSelect ops = true) (hf : Region.free .any ops listed i = true) (hr : (Region.ready .any ops listed).contains i = true)
    (hQL : ∀ (c : _) (a : Act) (d : Option Tmp) (v : Value) (w : World), LateQ P Q tl (.panic c) (a.put d v) w → LateQ P Q tl (.panic c) a w) (hw : Region.wanted oi (yielded ops a.tmps) = true) (hy : ∀ w, S w → (execOp a.eval oi).run P w = .ok (.value v) w) (hS : S w)
    (h : wpAnyH P .any ops (LateQ P Q tl) S fuel (listed.setIfInBounds i true) (a.put d v) w) : wpAnyH P .any ops (LateQ P Q tl) S (fuel + 1) listed a w :=
  wpAnyH_take hi hs hf hr (fun c a w => hQL c a _ _ w) (.inl ⟨hw, hy⟩) hS (hd ▸ h)

/-- A REGION WHOSE LAST OPERATIONS WAIT FOR ALL OTHERS. -/
theorem region_late {S : World → Prop} {id n : Nat} {ops : Array Oper} {a : Act} {w : World} (hops : ops = (l ++ tl).toArray) (hn : l.length = n) (hm : P.follows .mixedOrders = true) (hok : lateOk l tl = true) (hS : S w.drew)
    (h : (∀ (c : _) (a : Act) (d : Option Tmp) (v : Value) (w : World), LateQ P Q tl (.panic c) (a.put d v) w → LateQ P Q tl (.panic c) a w) → S w.drew → wpAnyH P .any l.toArray (LateQ P Q tl) S n (Array.replicate n false) a w.drew) : (Code.region id ops true).wp P Q a w := by
  subst hops hn
  refine wp_region_any hm ?_
  have := wpAny_late (P := P) (Q := Q) hok l.length (Array.replicate l.length false) a w.drew (by simp) (fun j o hj => by simp [Array.getElem?_replicate] at hj) (wpAny_of_held _ _ _ _ (h (fun _ _ _ _ _ h => h) hS))
  have e1 : Array.replicate l.length false ++ Array.replicate tl.length false = Array.replicate (l ++ tl).toArray.size false := by
    rw [Array.replicate_append_replicate]; simp
  rw [e1] at this
  have e2 : l.length + tl.length = (l ++ tl).toArray.size := by simp
  rw [e2] at this
  exact this
end
theorem wpTail_nil {P : Program} {Q : Exit → Act → World → Prop} {a : Act} {w : World} (h : Q .normal a w) : wpTail P Q [] a w := h
theorem bcellG {W w1 : World} {r : Option Nat} (hg : W.grownBy w1 r) : (∀ b o, b < W.heap.size → ¬ r = some b → w1.cell? ⟨b, o, none⟩ = W.cell? ⟨b, o, none⟩) ∧ (∀ b o, b < W.heap.size → ¬ r = some b → w1.frozen? ⟨b, o, none⟩ = W.frozen? ⟨b, o, none⟩) :=
  ⟨fun b o h hn => World.cell?_of_block (a := ⟨b, o, none⟩) (hg.block b h fun e => hn e.symm), fun b o h hn => World.frozen?_of_block (a := ⟨b, o, none⟩) (hg.block b h fun e => hn e.symm)⟩
end Go.Proofs.YtglhbaigigdeeaaGreat
/- Lists of strings that grow at their end. -/
namespace Go.Proofs.YtglhbaigigdeeaaGreat
set_option maxRecDepth 100000
open Go.RowKit

theorem infoStr : (Tryz.prog.info? 9).map (fun i => (i.zero, i.size, i.bytes)) = some (some (.string ByteArray.empty), 1, 16) := by kernel_rfl

/-- the value owns a row of these strings, in a block from B on -/
def Row (w : World) (B : Nat) (v : Value) (ss : List ByteArray) : Prop := w.ownsRow B 9 1 v ss.length (ss.map Value.string) ∧ ∀ s ∈ ss, s.size ≤ maxLen

theorem Row.nil (w : World) (B : Nat) : Row w B (.slice none 0 0) [] := ⟨World.ownsRow_nil w B _ 1, by simp⟩
theorem Row.made (w : World) {B : Nat} (hB : B ≤ w.heap.size) : Row (w.alloc (.cells #[] 9)) B (.slice (some ⟨w.heap.size, 0, none⟩) 0 0) [] :=
  ⟨World.ownsRow_made w #[] 0 hB (by decide) rfl, by simp⟩
theorem Row.made' {w : World} {B n : Nat} (hn : n = w.heap.size) (hB : B ≤ w.heap.size) : Row (w.alloc (.cells #[] 9)) B (.slice (some ⟨n, 0, none⟩) 0 0) [] := by subst hn; exact Row.made w hB
theorem Row.form {w : World} {B : Nat} {v : Value} {ss : List ByteArray} (h : Row w B v ss) : ∃ a cap, v = .slice a ss.length cap ∧ ss.length ≤ big ∧ ss.length ≤ cap := by
  rcases h.1.2 with ⟨rfl, h0⟩ | ⟨g, cap, cur, rfl, hb, hg, hc, hm, _⟩
  · exact ⟨none, 0, by rw [h0], by omega, by omega⟩
  · exact ⟨_, cap, rfl, Nat.le_trans hc hm, hc⟩
theorem Row.lt {w : World} {B : Nat} {v : Value} {ss : List ByteArray} (h : Row w B v ss) : ∀ k, v.ownBlock = some k → B ≤ k ∧ k < w.heap.size := h.1.lt
theorem Row.rd {w : World} {B : Nat} {v : Value} {ss : List ByteArray} (h : Row w B v ss) : D.rd (fun _ => True) w v (slOf strE ss) := by
  obtain ⟨⟨h0, h1⟩, hs⟩ := h
  rcases h1 with ⟨rfl, h2⟩ | ⟨g, cap, cur, rfl, hb, hg, hc, hm, hsz, htk⟩
  · have : ss = [] := List.length_eq_zero_iff.1 h2
    subst this
    rw [slOf, D.rd]
    exact ⟨none, 0, rfl, Nat.zero_le _, Nat.zero_le _, fun h => absurd rfl h, fun h => absurd rfl h⟩
  · refine slOf_strs (ss := ss) trivial (lt_of_heap hg) (Nat.le_trans hc hm) (fun i hi => ?_) hc
    refine ⟨?_, hs _ (List.getElem_mem hi)⟩
    rw [World.cell?, hg]
    have : (cur.toList.take (ss.length * 1))[i]? = some (Value.string ss[i]) := by rw [htk]; simp [hi]
    rw [List.getElem?_take] at this
    split at this
    · simpa using this
    · exact absurd this (by simp)
theorem Row.kept {w w' : World} {B : Nat} {v : Value} {ss : List ByteArray} {row : Option Nat} (h : Row w B v ss) (hg : w.grownBy w' row) (hne : v.ownBlock = none ∨ v.ownBlock ≠ row) : Row w' B v ss := ⟨h.1.kept hg hne, h.2⟩
theorem grown_of_below {w w' : World} (h : Below w.heap.size w w') (row : Option Nat) : w.grownBy w' row := ⟨h.os, h.tape, h.output, h.size, fun k hk _ => h.block k hk⟩
theorem Row.keep {w w' : World} {B : Nat} {v : Value} {ss : List ByteArray} (h : Row w B v ss) (hb : Below w.heap.size w w') : Row w' B v ss :=
  h.kept (grown_of_below hb none) (by cases v.ownBlock <;> simp)
theorem Row.drew {w : World} {B : Nat} {v : Value} {ss : List ByteArray} (h : Row w B v ss) : Row w.drew B v ss := h.keep (Below.refl _ _).drew
theorem Row.mono {w : World} {B B' : Nat} {v : Value} {ss : List ByteArray} (h : Row w B v ss) (hB : B' ≤ B) : Row w B' v ss := by
  refine ⟨⟨h.1.1, ?_⟩, h.2⟩
  rcases h.1.2 with h1 | ⟨g, cap, cur, h1, hb, hr⟩
  · exact .inl h1
  · exact .inr ⟨g, cap, cur, h1, Nat.le_trans hB hb, hr⟩
theorem Row.cells {w : World} {B : Nat} {v : Value} {ss : List ByteArray} (h : Row w B v ss) {g n cap : Nat} (hv : v = .slice (some ⟨g, 0, none⟩) n cap) : ∀ (j : Nat) x, ss[j]? = some x → w.cell? ⟨g, 0 + j, none⟩ = some (.string x) := by
  intro j x hj
  have := h.1.cells (g := g) (by rw [hv]; rfl) j (.string x) (by simp [hj])
  rw [Nat.zero_add]
  unfold Addr.add at this
  split at this
  · rename_i h0; subst h0; exact this
  · simpa using this

/-- a list of strings that is not nil -/
def Lst (w : World) (v : Value) (ss : List ByteArray) : Prop := ∃ b off cap, v = .slice (some ⟨b, off, none⟩) ss.length cap ∧ b < w.heap.size ∧ ss.length ≤ cap ∧ cap ≤ maxLen ∧ ∀ i (h : i < ss.length), w.cell? ⟨b, off + i, none⟩ = some (.string ss[i]) ∧ ss[i].size ≤ maxLen
theorem Lst.keep {w w' : World} {v : Value} {ss : List ByteArray} (h : Lst w v ss) (hb : Below w.heap.size w w') : Lst w' v ss := by
  obtain ⟨b, off, cap, e, h0, h1, h2, h3⟩ := h
  exact ⟨b, off, cap, e, Nat.lt_of_lt_of_le h0 hb.size, h1, h2, fun i hi => ⟨(hb.cell (p := ⟨b, off + i, none⟩) h0).trans (h3 i hi).1, (h3 i hi).2⟩⟩
theorem Lst.rd {w : World} {v : Value} {ss : List ByteArray} (h : Lst w v ss) : D.rd (fun _ => True) w v (slOf strE ss) := by
  obtain ⟨b, off, cap, rfl, h0, h1, h2, h3⟩ := h
  rw [slOf, D.rd]
  refine ⟨_, _, rfl, Nat.le_trans h1 h2, h1, fun hn => flat_ne strE_wide (by decide) (by intro e; subst e; simp at hn), fun hne => ⟨b, off, rfl, trivial, h0, (D.rds_iff _ _).2 fun i hi => ?_⟩⟩
  have hil : i < ss.length := by rw [flat_length strE_wide] at hi; omega
  obtain ⟨q0, q1⟩ := h3 i hil
  have hg := flat_get strE_wide ss i 0 hil (by decide)
  rw [Nat.mul_one, Nat.add_zero, List.getElem?_eq_getElem hi] at hg
  have : (ss.flatMap strE)[i] = .str ss[i] := by simpa [strE] using hg
  rw [this]
  exact ⟨_, q0, D.rd_str q1⟩
theorem Row.lst {w : World} {B : Nat} {v : Value} {ss : List ByteArray} (h : Row w B v ss) (hne : v ≠ .slice none 0 0) : Lst w v ss := by
  have hc := fun g n cap (hv : v = .slice (some ⟨g, 0, none⟩) n cap) => h.cells hv
  rcases h.1.2 with ⟨h0, _⟩ | ⟨g, cap, cur, rfl, hb, hg, hcc, hm, _⟩
  · exact absurd h0 hne
  · exact ⟨g, 0, cap, rfl, lt_of_heap hg, hcc, hm, fun i hi => ⟨hc g _ cap rfl i _ (List.getElem?_eq_getElem hi), h.2 _ (List.getElem_mem hi)⟩⟩
theorem Lst.made (w : World) : Lst (w.alloc (.cells #[] 9)) (.slice (some ⟨w.heap.size, 0, none⟩) 0 0) [] := ⟨_, _, _, rfl, by simp, Nat.le_refl _, by decide, fun i h => absurd h (by simp)⟩

theorem grown_refl (w : World) (row : Option Nat) : w.grownBy w row := ⟨rfl, rfl, rfl, Nat.le_refl _, fun _ _ _ => rfl⟩
theorem grown_trans {a b c : World} {row row' : Option Nat} (h : a.grownBy b row) (k : b.grownBy c row') (hr : ∀ x, row' = some x → row = some x ∨ a.heap.size ≤ x) : a.grownBy c row := by
  refine ⟨k.os.trans h.os, k.tape.trans h.tape, k.output.trans h.output, Nat.le_trans h.size k.size, fun x hx hne => ?_⟩
  rw [k.block x (Nat.lt_of_lt_of_le hx h.size) (fun e => ?_), h.block x hx hne]
  rcases hr x e.symm with q | q
  · exact hne q.symm
  · omega
/-- a value goes on as another one: in its own block, or in a new one -/
def Goes (w : World) (v v' : Value) : Prop := ∀ x, v'.ownBlock = some x → v.ownBlock = some x ∨ w.heap.size ≤ x
theorem Goes.refl (w : World) (v : Value) : Goes w v v := fun _ h => .inl h
theorem Goes.trans {w w1 : World} {v v1 v2 : Value} (h : Goes w v v1) (hz : w.heap.size ≤ w1.heap.size) (k : Goes w1 v1 v2) : Goes w v v2 := fun x hx => by
  rcases k x hx with q | q
  · exact h x q
  · exact .inr (Nat.le_trans hz q)

/-- append(list, y), y lying in a row of its own -/
theorem run_append_str {w : World} {B : Nat} {v : Value} {ss : List ByteArray} (hrow : Row w B v ss) {b : Nat} {y : ByteArray} (ty : TypeId) (hy : y.size ≤ maxLen) (hcell : w.cell? ⟨b, 0, none⟩ = some (.string y)) (hl : ss.length ≤ 4294967296) (hB : B ≤ w.heap.size) :
    ∃ g cap w', (Builtin.append_ #[119, 119] ty #[v, .slice (some ⟨b, 0, none⟩) 1 1]).run Tryz.prog w = .ok (.slice (some ⟨g, 0, none⟩) (ss.length + 1) cap) w' ∧
      Row w' B (.slice (some ⟨g, 0, none⟩) (ss.length + 1) cap) (ss ++ [y]) ∧ w.grownBy w' v.ownBlock ∧ Goes w v (.slice (some ⟨g, 0, none⟩) (ss.length + 1) cap) ∧ g < w'.heap.size := by
  obtain ⟨i0, hi, hz0, hz1, hz2⟩ := info_parts infoStr
  obtain ⟨g, cap, w', h1, h2, h3, h4, h5⟩ := run_append_lies (P := Tryz.prog) w 119 ty B 9 i0 _ 1 16 Tryz.underlying119 hi hz0 hz1 hz2 rfl (by decide) v ss.length _ hrow.1 ⟨b, 0, none⟩ 1 1 [.string y] rfl
    (fun j u hj => by
      cases j with
      | zero => simp at hj; subst hj; exact hcell
      | succ j => simp at hj) (by simp [Value.oneCell']) (by decide) (by unfold maxLen; omega) (by omega) hB _ rfl
  refine ⟨g, cap, w', h1, ⟨by simpa using h2, fun s hs => ?_⟩, h3, fun x hx => ?_, h5⟩
  · rcases List.mem_append.1 hs with q | q
    · exact hrow.2 s q
    · simp at q; subst q; exact hy
  · simp [Value.ownBlock] at hx
    subst hx
    rcases h4 with q | q
    · exact .inl q
    · exact .inr (by omega)

/-- append(list, ys...), ys lying in a row -/
theorem run_append_strs {w : World} {B : Nat} {v : Value} {ss ys : List ByteArray} (hrow : Row w B v ss) {b off m c : Nat} (ty : TypeId) (hm : m = ys.length) (hcell : ∀ j (hj : j < ys.length), w.cell? ⟨b, off + j, none⟩ = some (.string ys[j])) (hy : ∀ y ∈ ys, y.size ≤ maxLen) (hl : ss.length + ys.length ≤ 4294967296) (hB : B ≤ w.heap.size) :
    ∃ v' w', (Builtin.append_ #[119, 119] ty #[v, .slice (some ⟨b, off, none⟩) m c]).run Tryz.prog w = .ok v' w' ∧ Row w' B v' (ss ++ ys) ∧ w.grownBy w' v.ownBlock ∧ Goes w v v' ∧ (v ≠ .slice none 0 0 → v' ≠ .slice none 0 0) := by
  obtain ⟨i0, hi, hz0, hz1, hz2⟩ := info_parts infoStr
  subst hm
  obtain ⟨v', w', h1, h2, h3, h4, h5⟩ := run_append_own_at (P := Tryz.prog) w B 119 ty 9 i0 _ 1 16 Tryz.underlying119 hi hz0 hz1 hz2 rfl (by decide) v ss.length _ hrow.1 ⟨b, off, none⟩ ys.length c (ys.map Value.string) (by simp)
    (fun j u hj => by
      rw [List.getElem?_map] at hj
      cases hyj : ys[j]? with
      | none => rw [hyj] at hj; cases hj
      | some y =>
        rw [hyj] at hj
        obtain ⟨hjl, e⟩ := List.getElem?_eq_some_iff.1 hyj
        have := hcell j hjl
        rw [e] at this
        have hu : u = .string y := by simpa using hj.symm
        rw [hu, ← this]
        unfold Addr.add
        split
        · rename_i h0; subst h0; rfl
        · rfl) (fun u hu => by
      obtain ⟨y, _, rfl⟩ := List.mem_map.1 hu
      simp [Value.oneCell']) (by unfold maxLen; omega) (by omega) hB
  refine ⟨v', w', h1, ⟨by simpa using h2, fun s hs => ?_⟩, h3, fun x hx => ?_, fun hne hn => hne (h4.1 hn).1⟩
  · rcases List.mem_append.1 hs with q | q
    · exact hrow.2 s q
    · exact hy s q
  · rcases h5 with q | q
    · exact .inl (by rw [← q]; exact hx)
    · rw [q] at hx; injection hx with hx; exact .inr (by omega)
/-- .. at a step of a region that draws its order -/
theorem step_append_strs {ops : Array Oper} {o : Oper} {a : Act} {w : World} {K : Act → World → Prop} {Q : Exit → Act → World → Prop} {E : Prop} (hgd : o.guard = none) (s x : Operand)
    (ho : o.op = .call { callee := .builtin .append, args := #[s, x], argTypes := #[119, 119] }) {B : Nat} {v : Value} {ss ys : List ByteArray} {b off m c : Nat}
    (hs : a.eval s = v) (hx : a.eval x = .slice (some ⟨b, off, none⟩) m c) (hrow : Row w B v ss) (hm : m = ys.length) (hcell : ∀ j (hj : j < ys.length), w.cell? ⟨b, off + j, none⟩ = some (.string ys[j])) (hy : ∀ y ∈ ys, y.size ≤ maxLen) (hl : ss.length + ys.length ≤ 4294967296) (hB : B ≤ w.heap.size)
    (h : ∀ v' w', Row w' B v' (ss ++ ys) → w.grownBy w' v.ownBlock → Goes w v v' → (v ≠ .slice none 0 0 → v' ≠ .slice none 0 0) → K (a.put o.dst v') w') :
    if Region.wanted o (yielded ops a.tmps) = true then Oper.wp Tryz.prog o a w K Q else E := by
  have hw : Region.wanted o (yielded ops a.tmps) = true := by simp [Region.wanted, hgd]
  rw [if_pos hw]
  obtain ⟨v', w', hr, h2, h3, h4, h5⟩ := run_append_strs (c := c) hrow o.type hm hcell hy hl hB
  unfold Oper.wp execOp
  simp only [ho, resolve, invoke, builtin, Sem.run_bind, Sem.run_pure, Result.andThen_ok, List.map_toArray, List.map_cons, List.map_nil, hs, hx, hr]
  exact h v' w' h2 h3 h4 h5
/-- .. at the list of a plain region's operations -/
theorem wpList_append_str {ops : Array Oper} {rest : List Oper} {o : Oper} {a : Act} {w : World} {Q : Exit → Act → World → Prop} (hgd : o.guard = none) (s x : Operand)
    (ho : o.op = .call { callee := .builtin .append, args := #[s, x], argTypes := #[119, 119] }) {B : Nat} {v : Value} {ss : List ByteArray} {b : Nat} {y : ByteArray}
    (hs : a.eval s = v) (hx : a.eval x = .slice (some ⟨b, 0, none⟩) 1 1) (hrow : Row w B v ss) (hy : y.size ≤ maxLen) (hcell : w.cell? ⟨b, 0, none⟩ = some (.string y)) (hl : ss.length ≤ 4294967296) (hB : B ≤ w.heap.size)
    (h : ∀ g cap w', Row w' B (.slice (some ⟨g, 0, none⟩) (ss.length + 1) cap) (ss ++ [y]) → w.grownBy w' v.ownBlock → Goes w v (.slice (some ⟨g, 0, none⟩) (ss.length + 1) cap) → g < w'.heap.size → wpList Tryz.prog ops Q rest (a.put o.dst (.slice (some ⟨g, 0, none⟩) (ss.length + 1) cap)) w') : wpList Tryz.prog ops Q (o :: rest) a w := by
  obtain ⟨g, cap, w', hr, h2, h3, h4, h5⟩ := run_append_str hrow o.type hy hcell hl hB
  refine wpList_plain hgd fun _ hK => ?_
  unfold Oper.wp execOp
  simp only [ho, resolve, invoke, builtin, Sem.run_bind, Sem.run_pure, Result.andThen_ok, List.map_toArray, List.map_cons, List.map_nil, hs, hx, hr]
  exact hK _ _ (h g cap w' h2 h3 h4 h5)
/-- .. at a step of a region that draws its order -/
theorem step_append_str {ops : Array Oper} {o : Oper} {a : Act} {w : World} {K : Act → World → Prop} {Q : Exit → Act → World → Prop} {E : Prop} (hgd : o.guard = none) (s x : Operand)
    (ho : o.op = .call { callee := .builtin .append, args := #[s, x], argTypes := #[119, 119] }) {B : Nat} {v : Value} {ss : List ByteArray} {b : Nat} {y : ByteArray}
    (hs : a.eval s = v) (hx : a.eval x = .slice (some ⟨b, 0, none⟩) 1 1) (hrow : Row w B v ss) (hy : y.size ≤ maxLen) (hcell : w.cell? ⟨b, 0, none⟩ = some (.string y)) (hl : ss.length ≤ 4294967296) (hB : B ≤ w.heap.size)
    (h : ∀ g cap w', Row w' B (.slice (some ⟨g, 0, none⟩) (ss.length + 1) cap) (ss ++ [y]) → w.grownBy w' v.ownBlock → Goes w v (.slice (some ⟨g, 0, none⟩) (ss.length + 1) cap) → g < w'.heap.size → K (a.put o.dst (.slice (some ⟨g, 0, none⟩) (ss.length + 1) cap)) w') :
    if Region.wanted o (yielded ops a.tmps) = true then Oper.wp Tryz.prog o a w K Q else E := by
  have hw : Region.wanted o (yielded ops a.tmps) = true := by simp [Region.wanted, hgd]
  rw [if_pos hw]
  obtain ⟨g, cap, w', hr, h2, h3, h4, h5⟩ := run_append_str hrow o.type hy hcell hl hB
  unfold Oper.wp execOp
  simp only [ho, resolve, invoke, builtin, Sem.run_bind, Sem.run_pure, Result.andThen_ok, List.map_toArray, List.map_cons, List.map_nil, hs, hx, hr]
  exact h g cap w' h2 h3 h4 h5
/-- .. told from a world that the region began in -/
theorem step_apps {ops : Array Oper} {o : Oper} {a : Act} {w W : World} {K : Act → World → Prop} {Q : Exit → Act → World → Prop} {E : Prop} (hgd : o.guard = none) (s x : Operand)
    (ho : o.op = .call { callee := .builtin .append, args := #[s, x], argTypes := #[119, 119] }) {B : Nat} (hBW : Below B W w) (hB : B ≤ w.heap.size) {v : Value} {ss ys : List ByteArray} {b off m c : Nat}
    (hs : a.eval s = v) (hx : a.eval x = .slice (some ⟨b, off, none⟩) m c) (hrow : Row w B v ss) (hm : m = ys.length) (hb : ys.length ≠ 0 → b < B) (hcell : ∀ j (hj : j < ys.length), W.cell? ⟨b, off + j, none⟩ = some (.string ys[j])) (hy : ∀ y ∈ ys, y.size ≤ maxLen) (hl : ss.length + ys.length ≤ 4294967296)
    (h : ∀ v' w', Row w' B v' (ss ++ ys) → Below B W w' → B ≤ w'.heap.size → (v ≠ .slice none 0 0 → v' ≠ .slice none 0 0) → w.grownBy w' v.ownBlock → K (a.put o.dst v') w') :
    if Region.wanted o (yielded ops a.tmps) = true then Oper.wp Tryz.prog o a w K Q else E := by
  refine step_append_strs hgd s x ho hs hx hrow hm (fun j hj => (hBW.cell (p := ⟨b, off + j, none⟩) (hb (by omega))).trans (hcell j hj)) hy hl hB fun v' w' h1 h2 h3 h4 => ?_
  have q := Below.grown hBW h2 hB (fun k hk => (hrow.lt k hk).1)
  exact h v' w' h1 q (Nat.le_trans hB h2.size) h4 h2
theorem step_app {ops : Array Oper} {o : Oper} {a : Act} {w W : World} {K : Act → World → Prop} {Q : Exit → Act → World → Prop} {E : Prop} (hgd : o.guard = none) (s x : Operand)
    (ho : o.op = .call { callee := .builtin .append, args := #[s, x], argTypes := #[119, 119] }) {B : Nat} (hBW : Below B W w) (hB : B ≤ w.heap.size) {v : Value} {ss : List ByteArray} {b : Nat} {y : ByteArray}
    (hs : a.eval s = v) (hx : a.eval x = .slice (some ⟨b, 0, none⟩) 1 1) (hrow : Row w B v ss) (hy : y.size ≤ maxLen) (hcell : w.cell? ⟨b, 0, none⟩ = some (.string y)) (hl : ss.length ≤ 4294967296)
    (h : ∀ g cap w', Row w' B (.slice (some ⟨g, 0, none⟩) (ss.length + 1) cap) (ss ++ [y]) → Below B W w' → B ≤ w'.heap.size → g < w'.heap.size → w.grownBy w' v.ownBlock → K (a.put o.dst (.slice (some ⟨g, 0, none⟩) (ss.length + 1) cap)) w') :
    if Region.wanted o (yielded ops a.tmps) = true then Oper.wp Tryz.prog o a w K Q else E := by
  refine step_append_str hgd s x ho hs hx hrow hy hcell hl hB fun g cap w' h1 h2 h3 h4 => ?_
  have q := Below.grown hBW h2 hB (fun k hk => (hrow.lt k hk).1)
  exact h g cap w' h1 q (Nat.le_trans hB h2.size) h4 h2
end Go.Proofs.YtglhbaigigdeeaaGreat
