/- Items of which a call owns all memory, as pairs: what an item is, and the value of its slice. -/
import Derived.Test.YtoblhgaohmfjeaaGr
import Derived.Test.YtoblhgaohmfjeaaOw
import Derived.Test.YtoblhgaohmfjeaaMk
namespace Go.Proofs.Ytoblhgaohmfjeaa
set_option maxRecDepth 100000
open Go.RowKit

theorem D.owns_vals {w : World} {b : Nat} : ∀ (ds : List D) (off : Nat) (F : List Nat), D.owns w b off ds F → ∃ vs : List Value, vs.length = ds.length ∧ (∀ i (h : i < vs.length), w.cell? ⟨b, off + i, none⟩ = some vs[i]) ∧ OwnsL w vs ds F
  | [], off, F, h => by rw [D.owns] at h; exact ⟨[], rfl, by intro i h; simp at h, by rw [OwnsL]; exact h⟩
  | d :: ds, off, F, h => by
    rw [D.owns] at h
    obtain ⟨F1, F2, rfl, hd, ⟨v, q0, q1⟩, hr⟩ := h
    obtain ⟨vs, hl, hc, ho⟩ := D.owns_vals ds (off + 1) F2 hr
    refine ⟨v :: vs, by simp [hl], fun i hi => ?_, by rw [OwnsL]; exact ⟨F1, F2, rfl, hd, q1, ho⟩⟩
    cases i with
    | zero => simpa using q0
    | succ i =>
      have := hc i (by simpa using hi)
      rw [show off + 1 + i = off + (i + 1) by omega] at this
      simpa using this
theorem OwnsL.split {w : World} : ∀ (vs : List Value) (ds : List D) {us : List Value} {es : List D} {F : List Nat}, vs.length = ds.length → OwnsL w (vs ++ us) (ds ++ es) F → ∃ F1 F2, F = F1 ++ F2 ∧ (∀ x ∈ F1, x ∉ F2) ∧ OwnsL w vs ds F1 ∧ OwnsL w us es F2
  | [], [], us, es, F, _, h => ⟨[], F, rfl, by simp, OwnsL.nil w, h⟩
  | [], _ :: _, _, _, _, hl, _ => absurd hl (by simp)
  | _ :: _, [], _, _, _, hl, _ => absurd hl (by simp)
  | v :: vs, d :: ds, us, es, F, hl, h => by
    rw [List.cons_append, List.cons_append, OwnsL] at h
    obtain ⟨G1, G2, rfl, hd, h1, h2⟩ := h
    obtain ⟨F1, F2, rfl, hd2, h3, h4⟩ := OwnsL.split vs ds (by simpa using hl) h2
    refine ⟨G1 ++ F1, F2, by simp, fun x hx q => ?_, by rw [OwnsL]; exact ⟨G1, F1, rfl, fun x hx q => hd x hx (by simp [q]), h1, h3⟩, h4⟩
    rcases List.mem_append.1 hx with p | p
    · exact hd x p (by simp [q])
    · exact hd2 x p q
theorem items_sub {β : Type} {ev : β → List Value} {ed : β → List D} {w : World} (hl : ∀ p, (ev p).length = (ed p).length) {d d' : List β} (h : d'.Sublist d) : ∀ {F : List Nat}, OwnsL w (d.flatMap ev) (d.flatMap ed) F → ∃ F', OwnsL w (d'.flatMap ev) (d'.flatMap ed) F' ∧ ∀ x ∈ F', x ∈ F := by
  induction h with
  | slnil => intro F h; exact ⟨F, h, fun _ h => h⟩
  | cons p _ ih =>
    intro F h
    rw [List.flatMap_cons, List.flatMap_cons] at h
    obtain ⟨F1, F2, rfl, _, _, h2⟩ := OwnsL.split _ _ (hl p) h
    obtain ⟨F', h3, h4⟩ := ih h2
    exact ⟨F', h3, fun x hx => by simp [h4 x hx]⟩
  | cons_cons p _ ih =>
    intro F h
    rw [List.flatMap_cons, List.flatMap_cons] at h
    obtain ⟨F1, F2, rfl, hd, h1, h2⟩ := OwnsL.split _ _ (hl p) h
    obtain ⟨F', h3, h4⟩ := ih h2
    refine ⟨F1 ++ F', ?_, fun x hx => ?_⟩
    · rw [List.flatMap_cons, List.flatMap_cons]
      exact h1.append h3 fun x hx q => hd x hx (h4 x q)
    · rcases List.mem_append.1 hx with q | q
      · simp [q]
      · simp [h4 x q]
theorem items_perm {β : Type} {ev : β → List Value} {ed : β → List D} {w : World} (hl : ∀ p, (ev p).length = (ed p).length) {d d' : List β} (h : d.Perm d') : ∀ {F : List Nat}, OwnsL w (d.flatMap ev) (d.flatMap ed) F → ∃ F', OwnsL w (d'.flatMap ev) (d'.flatMap ed) F' ∧ ∀ x ∈ F', x ∈ F := by
  induction h with
  | nil => intro F h; exact ⟨F, h, fun _ h => h⟩
  | cons p _ ih =>
    intro F h
    rw [List.flatMap_cons, List.flatMap_cons] at h
    obtain ⟨F1, F2, rfl, hd, h1, h2⟩ := OwnsL.split _ _ (hl p) h
    obtain ⟨F', h3, h4⟩ := ih h2
    refine ⟨F1 ++ F', ?_, fun x hx => ?_⟩
    · rw [List.flatMap_cons, List.flatMap_cons]
      exact h1.append h3 fun x hx q => hd x hx (h4 x q)
    · rcases List.mem_append.1 hx with q | q
      · simp [q]
      · simp [h4 x q]
  | swap p q l =>
    intro F h
    simp only [List.flatMap_cons] at h ⊢
    obtain ⟨F1, F2, rfl, hd, h1, h2⟩ := OwnsL.split _ _ (hl _) h
    obtain ⟨F3, F4, rfl, hd2, h3, h4⟩ := OwnsL.split _ _ (hl _) h2
    refine ⟨F3 ++ (F1 ++ F4), h3.append (h1.append h4 fun x hx q => hd x hx (by simp [q])) fun x hx q => ?_, fun x hx => by simp only [List.mem_append] at hx ⊢; rcases hx with q | q | q <;> simp [q]⟩
    rcases List.mem_append.1 q with q | q
    · exact hd x q (by simp [hx])
    · exact hd2 x hx q
  | trans _ _ ih1 ih2 =>
    intro F h
    obtain ⟨F', h3, h4⟩ := ih1 h
    obtain ⟨F'', h5, h6⟩ := ih2 h3
    exact ⟨F'', h5, fun x hx => h4 x (h6 x hx)⟩

/-- a row of known cells, all of which may be written -/
def RowAt (w : World) (b off : Nat) (e : TypeId) (vs : List Value) : Prop := ∃ cur, w.heap[b]? = some (.cells cur e (0, 0)) ∧ ∀ i (h : i < vs.length), cur[off + i]? = some vs[i]
theorem RowAt.cell {w : World} {b off : Nat} {e : TypeId} {vs : List Value} (h : RowAt w b off e vs) {i : Nat} (hi : i < vs.length) : w.cell? ⟨b, off + i, none⟩ = some vs[i] := by
  obtain ⟨cur, h0, h1⟩ := h
  simp [World.cell?, h0, h1 i hi]
theorem RowAt.free {w : World} {b off : Nat} {e : TypeId} {vs : List Value} (h : RowAt w b off e vs) (p : Nat) : w.frozen? ⟨b, p, none⟩ = false := by
  obtain ⟨cur, h0, h1⟩ := h
  simp [World.frozen?, h0]
theorem RowAt.lt {w : World} {b off : Nat} {e : TypeId} {vs : List Value} (h : RowAt w b off e vs) : b < w.heap.size := by
  obtain ⟨cur, h0, h1⟩ := h
  exact lt_of_heap h0
theorem RowAt.set {w : World} {b off : Nat} {e : TypeId} {vs : List Value} (h : RowAt w b off e vs) {i : Nat} (hi : i < vs.length) (u : Value) : RowAt (w.setCell ⟨b, off + i, none⟩ u) b off e (vs.set i u) := by
  obtain ⟨cur, h0, h1⟩ := h
  refine ⟨_, heap_setCell h0 u, fun k hk => ?_⟩
  rw [List.length_set] at hk
  have hk' := h1 k hk
  rw [Array.getElem?_setIfInBounds, List.getElem_set]
  have hki := h1 i hi
  have hlt : off + i < cur.size := (Array.getElem?_eq_some_iff.1 hki).1
  by_cases q : i = k
  · subst q; simp [hlt]
  · rw [if_neg (by omega), if_neg q]; exact hk'
theorem RowAt.keep {w w' : World} {b off : Nat} {e : TypeId} {vs : List Value} (h : RowAt w b off e vs) (hk : Keeps (· = b) w w') : RowAt w' b off e vs := by
  have hl := h.lt
  obtain ⟨cur, h0, h1⟩ := h
  exact ⟨cur, (hk.block b rfl hl).trans h0, h1⟩
/-- an owned slice: its row, and what the row's cells own -/
theorem own_row {w : World} {a : Option Addr} {n m cap : Nat} {ds : List D} {F : List Nat} (h : D.own w (.slice a n cap) (.sl m ds) F) (hne : ds ≠ []) : ∃ b off e vs F', a = some ⟨b, off, none⟩ ∧ F = b :: F' ∧ b ∉ F' ∧ RowAt w b off e vs ∧ vs.length = ds.length ∧ OwnsL w vs ds F' := by
  rw [D.own] at h
  obtain ⟨a', cap', e, h1, h2, h3, h4⟩ := h
  injection e with e0 e1 e2
  subst e0 e1 e2
  rcases h4 with ⟨h4, _⟩ | ⟨_, b, off, F', cur, e, q0, q1, rfl, q3, q4⟩
  · exact absurd h4 hne
  obtain ⟨vs, hl, hc, ho⟩ := D.owns_vals _ _ _ q4
  refine ⟨b, off, e, vs, F', q0, rfl, q3, ⟨cur, q1, fun i hi => ?_⟩, hl, ho⟩
  have := hc i hi
  simpa [World.cell?, q1] using this
/-- .. and back, the row being longer perhaps -/
theorem row_own {w : World} {b off n cap : Nat} {e : TypeId} {vs us : List Value} {ds : List D} {F : List Nat} (hr : RowAt w b off e vs) (ho : OwnsL w us ds F) (hb : b ∉ F) (hu : ∀ i (h : i < us.length), vs[i]? = some us[i]) (hn : n ≤ big) (hc : n ≤ cap) (h0 : n ≠ 0 → ds ≠ []) : ∃ G, D.own w (.slice (some ⟨b, off, none⟩) n cap) (.sl n ds) G ∧ ∀ x ∈ G, x = b ∨ x ∈ F := by
  by_cases hd : ds = []
  · subst hd
    exact ⟨[], by rw [D.own]; exact ⟨_, _, rfl, hn, hc, h0, .inl ⟨rfl, rfl⟩⟩, by simp⟩
  · have hrr := hr
    obtain ⟨cur, q0, q1⟩ := hr
    refine ⟨b :: F, ?_, fun x hx => by simpa using hx⟩
    rw [D.own]
    refine ⟨_, _, rfl, hn, hc, h0, .inr ⟨hd, b, off, F, cur, e, rfl, q0, rfl, hb, ho.owns off fun i hi => ?_⟩⟩
    have hui := hu i hi
    obtain ⟨hl, he⟩ := List.getElem?_eq_some_iff.1 hui
    rw [← he]
    exact hrr.cell hl
end Go.Proofs.Ytoblhgaohmfjeaa
