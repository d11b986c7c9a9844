/- Several texts in one file. -/
import Derived.WalkKit
import Derived.ProofKit
import Derived.Deep.Quiet
import Derived.DataReads
import Derived.Deep.Slices
import Derived.Test.YtooocakkjdhfiaaGreatDoorRows
import Derived.WalkSpells
import Derived.WalkLawsBesides
/- Data as it lies in cells of memory: what a value reads as, which blocks it owns, and what keeps it. -/
namespace Go.Proofs.YtooocakkjdhfiaaGreatDoor
set_option maxRecDepth 100000
open Go.RowKit

theorem hid {p : Prop} (h : p) : Hid p := h

/-- a bound of lengths, behind a name -/
def big : Nat := 9223372036854775807

/-- data: a string, a number, a bool, a slice of so many elements with all their cells in a row -/
inductive D where
  | str (s : ByteArray)
  | num (n : Int)
  | bit (b : Bool)
  | sl (n : Nat) (cs : List D)

mutual
/-- the value v reads as the datum; every block that is met lies in S -/
def D.rd (S : Nat → Prop) (w : World) : Value → D → Prop
  | v, .str s => v = .string s ∧ s.size ≤ maxLen
  | v, .num n => v = .int .i64 n ∧ -9223372036854775808 ≤ n ∧ n ≤ 9223372036854775807
  | v, .bit b => v = .bool b
  | v, .sl n cs => ∃ a cap, v = .slice a n cap ∧ n ≤ big ∧ n ≤ cap ∧ (n ≠ 0 → cs ≠ []) ∧ (cs ≠ [] → ∃ b off, a = some ⟨b, off, none⟩ ∧ S b ∧ b < w.heap.size ∧ D.rds S w b off cs)
def D.rds (S : Nat → Prop) (w : World) (b : Nat) : Nat → List D → Prop
  | _, [] => True
  | off, d :: ds => (∃ v, w.cell? ⟨b, off, none⟩ = some v ∧ D.rd S w v d) ∧ D.rds S w b (off + 1) ds
end

/-- by induction over data -/
theorem D.ind {P : D → Prop} (hs : ∀ s, P (.str s)) (hn : ∀ n, P (.num n)) (hb : ∀ b, P (.bit b)) (h : ∀ n cs, (∀ c ∈ cs, P c) → P (.sl n cs)) : ∀ d, P d
  | .str s => hs s
  | .num n => hn n
  | .bit b => hb b
  | .sl n cs => h n cs (go cs)
where
  go : ∀ cs : List D, ∀ c ∈ cs, P c
    | [], _, hm => by cases hm
    | t :: ts, c, hm => by
      cases hm with
      | head => exact D.ind hs hn hb h t
      | tail _ hm => exact go ts c hm

theorem D.rds_iff {S : Nat → Prop} {w : World} {b : Nat} : ∀ (ds : List D) (off : Nat), D.rds S w b off ds ↔ ∀ i (h : i < ds.length), ∃ v, w.cell? ⟨b, off + i, none⟩ = some v ∧ D.rd S w v ds[i]
  | [], off => by rw [D.rds]; simp
  | d :: ds, off => by
    rw [D.rds, D.rds_iff ds (off + 1)]
    constructor
    · rintro ⟨h0, h1⟩ i hi
      cases i with
      | zero => simpa using h0
      | succ i =>
        obtain ⟨v, q0, q1⟩ := h1 i (by simpa using hi)
        exact ⟨v, by rw [← q0]; congr 2; omega, by simpa using q1⟩
    · intro h
      refine ⟨h 0 (by simp), fun i hi => ?_⟩
      obtain ⟨v, q0, q1⟩ := h (i + 1) (by simpa using hi)
      exact ⟨v, by rw [← q0]; congr 2; omega, by simpa using q1⟩

theorem D.rds_get {S : Nat → Prop} {w : World} {b off : Nat} {ds : List D} (h : D.rds S w b off ds) {i : Nat} {d : D} (hi : ds[i]? = some d) : ∃ v, w.cell? ⟨b, off + i, none⟩ = some v ∧ D.rd S w v d := by
  obtain ⟨hl, he⟩ := List.getElem?_eq_some_iff.1 hi
  obtain ⟨v, q0, q1⟩ := (D.rds_iff ds off).1 h i hl
  exact ⟨v, q0, he ▸ q1⟩

/-- what w' keeps of w: the blocks of S -/
structure Keeps (S : Nat → Prop) (w w' : World) : Prop where
  size : w.heap.size ≤ w'.heap.size
  block : ∀ b, S b → b < w.heap.size → w'.heap[b]? = w.heap[b]?

theorem Keeps.refl (S : Nat → Prop) (w : World) : Keeps S w w := ⟨Nat.le_refl _, fun _ _ _ => rfl⟩
theorem Keeps.trans {S : Nat → Prop} {a b c : World} (h : Keeps S a b) (k : Keeps S b c) : Keeps S a c :=
  ⟨Nat.le_trans h.size k.size, fun x hs hx => (k.block x hs (Nat.lt_of_lt_of_le hx h.size)).trans (h.block x hs hx)⟩
theorem Keeps.mono {S S' : Nat → Prop} {w w' : World} (h : Keeps S' w w') (hs : ∀ b, S b → S' b) : Keeps S w w' := ⟨h.size, fun b q => h.block b (hs b q)⟩
theorem Keeps.of_below {S : Nat → Prop} {B : Nat} {w w' : World} (h : Below B w w') (hs : ∀ b, S b → b < w.heap.size → b < B) : Keeps S w w' := ⟨h.size, fun b q hb => h.block b (hs b q hb)⟩
theorem Keeps.all {S : Nat → Prop} {w w' : World} (h : Below w.heap.size w w') : Keeps S w w' := Keeps.of_below h fun _ _ h => h
theorem Keeps.cell {S : Nat → Prop} {w w' : World} (h : Keeps S w w') {b o : Nat} (hs : S b) (hb : b < w.heap.size) : w'.cell? ⟨b, o, none⟩ = w.cell? ⟨b, o, none⟩ := World.cell?_of_block (w := w) (h.block b hs hb)
theorem Keeps.alloc {S : Nat → Prop} {w w' : World} (h : Keeps S w w') (o : Obj) : Keeps S w (w'.alloc o) :=
  h.trans ⟨by simp, fun b _ hb => Below.heap_alloc _ _ _ hb⟩
theorem Keeps.drew {S : Nat → Prop} {w w' : World} (h : Keeps S w w') : Keeps S w w'.drew := ⟨h.size, h.block⟩
theorem Keeps.drewN {S : Nat → Prop} {w w' : World} {n : Nat} (h : Keeps S w w') : Keeps S w (w'.drewN n) := ⟨h.size, h.block⟩
theorem Keeps.setCell {S : Nat → Prop} {w w' : World} (h : Keeps S w w') {p : Addr} (hp : S p.block → p.block < w.heap.size → False) (u : Value) : Keeps S w (w'.setCell p u) := by
  refine ⟨by simpa [World.setCell] using h.size, fun b hs hb => ?_⟩
  rw [Below.heap_setCell _ _ _ _ (fun e => hp (e ▸ hs) (e ▸ hb))]
  exact h.block b hs hb

theorem Keeps.set_lt {S : Nat → Prop} {w w' : World} (h : Keeps S w w') {n : Nat} (hn : ∀ x, S x → n ≤ x) {p : Addr} (hp : p.block < n) (u : Value) : Keeps S w (w'.setCell p u) :=
  h.setCell (fun q _ => by have := hn _ q; omega) u

theorem D.rd_mono {S S' : Nat → Prop} {w : World} (hs : ∀ b, S b → S' b) : ∀ (d : D) (v : Value), D.rd S w v d → D.rd S' w v d := by
  refine D.ind (fun s v h => by rw [D.rd] at h ⊢; exact h) (fun n v h => by rw [D.rd] at h ⊢; exact h) (fun b v h => by rw [D.rd] at h ⊢; exact h) (fun n cs ih v h => ?_)
  rw [D.rd] at h ⊢
  obtain ⟨a, cap, h0, h1, h2, h3, h4⟩ := h
  refine ⟨a, cap, h0, h1, h2, h3, fun hne => ?_⟩
  obtain ⟨b, off, q0, q1, q2, q3⟩ := h4 hne
  refine ⟨b, off, q0, hs b q1, q2, (D.rds_iff _ _).2 fun i hi => ?_⟩
  obtain ⟨v, r0, r1⟩ := (D.rds_iff _ _).1 q3 i hi
  exact ⟨v, r0, ih _ (List.getElem_mem hi) _ r1⟩

theorem D.rd_keep {S : Nat → Prop} {w w' : World} (hk : Keeps S w w') : ∀ (d : D) (v : Value), D.rd S w v d → D.rd S w' v d := by
  refine D.ind (fun s v h => by rw [D.rd] at h ⊢; exact h) (fun n v h => by rw [D.rd] at h ⊢; exact h) (fun b v h => by rw [D.rd] at h ⊢; exact h) (fun n cs ih v h => ?_)
  rw [D.rd] at h ⊢
  obtain ⟨a, cap, h0, h1, h2, h3, h4⟩ := h
  refine ⟨a, cap, h0, h1, h2, h3, fun hne => ?_⟩
  obtain ⟨b, off, q0, q1, q2, q3⟩ := h4 hne
  refine ⟨b, off, q0, q1, Nat.lt_of_lt_of_le q2 hk.size, (D.rds_iff _ _).2 fun i hi => ?_⟩
  obtain ⟨v, r0, r1⟩ := (D.rds_iff _ _).1 q3 i hi
  exact ⟨v, (hk.cell q1 q2).trans r0, ih _ (List.getElem_mem hi) _ r1⟩

theorem D.rd_below {S : Nat → Prop} {w w' : World} (h : Below w.heap.size w w') {d : D} {v : Value} (hr : D.rd S w v d) : D.rd S w' v d := D.rd_keep (Keeps.all h) d v hr

mutual
/-- the value v reads as the datum, and every slice in it with an element has a block of its own: those blocks are F, each met once, none frozen -/
def D.own (w : World) : Value → D → List Nat → Prop
  | v, .str s, F => v = .string s ∧ s.size ≤ maxLen ∧ F = []
  | v, .num n, F => v = .int .i64 n ∧ -9223372036854775808 ≤ n ∧ n ≤ 9223372036854775807 ∧ F = []
  | v, .bit b, F => v = .bool b ∧ F = []
  | v, .sl n cs, F => ∃ a cap, v = .slice a n cap ∧ n ≤ big ∧ n ≤ cap ∧ (n ≠ 0 → cs ≠ []) ∧ ((cs = [] ∧ F = []) ∨ (cs ≠ [] ∧ ∃ b off F' cur e, a = some ⟨b, off, none⟩ ∧ w.heap[b]? = some (.cells cur e (0, 0)) ∧ F = b :: F' ∧ b ∉ F' ∧ D.owns w b off cs F'))
def D.owns (w : World) (b : Nat) : Nat → List D → List Nat → Prop
  | _, [], F => F = []
  | off, d :: ds, F => ∃ F1 F2, F = F1 ++ F2 ∧ (∀ x ∈ F1, x ∉ F2) ∧ (∃ v, w.cell? ⟨b, off, none⟩ = some v ∧ D.own w v d F1) ∧ D.owns w b (off + 1) ds F2
end

theorem lt_of_heap {w : World} {b : Nat} {o : Obj} (h : w.heap[b]? = some o) : b < w.heap.size := (Array.getElem?_eq_some_iff.1 h).1

theorem D.own_rd {w : World} : ∀ (d : D) (v : Value) (F : List Nat), D.own w v d F → D.rd (· ∈ F) w v d := by
  refine D.ind (fun s v F h => by rw [D.own] at h; rw [D.rd]; exact ⟨h.1, h.2.1⟩) (fun n v F h => by rw [D.own] at h; rw [D.rd]; exact ⟨h.1, h.2.1, h.2.2.1⟩) (fun b v F h => by rw [D.own] at h; rw [D.rd]; exact h.1) (fun n cs ih v F h => ?_)
  rw [D.own] at h; rw [D.rd]
  obtain ⟨a, cap, h0, h1, h2, h3, h4⟩ := h
  refine ⟨a, cap, h0, h1, h2, h3, fun hne => ?_⟩
  rcases h4 with ⟨h4, _⟩ | ⟨_, b, off, F', cur, e, q0, q1, rfl, q3, q4⟩
  · exact absurd h4 hne
  refine ⟨b, off, q0, by simp, lt_of_heap q1, ?_⟩
  have key : ∀ (cs : List D) (off : Nat) (F'' : List Nat), (∀ c ∈ cs, ∀ v F, D.own w v c F → D.rd (· ∈ F) w v c) → (∀ x ∈ F'', x ∈ b :: F') → D.owns w b off cs F'' → D.rds (· ∈ b :: F') w b off cs := by
    intro cs
    induction cs with
    | nil => intro _ _ _ _ _; rw [D.rds]; trivial
    | cons c cs ihc =>
      intro off F'' ih hsub ho
      rw [D.owns] at ho; rw [D.rds]
      obtain ⟨F1, F2, rfl, hd, ⟨v, r0, r1⟩, r2⟩ := ho
      exact ⟨⟨v, r0, D.rd_mono (fun x hx => hsub x (by simp [show x ∈ F1 from hx])) _ _ (ih c (by simp) v F1 r1)⟩,
        ihc _ F2 (fun c hc => ih c (by simp [hc])) (fun x hx => hsub x (by simp [hx])) r2⟩
  exact key cs off F' ih (fun x hx => by simp [hx]) q4

theorem D.own_keep {w w' : World} : ∀ (d : D) (v : Value) (F : List Nat), Keeps (· ∈ F) w w' → D.own w v d F → D.own w' v d F := by
  refine D.ind (fun s v F _ h => by rw [D.own] at h ⊢; exact h) (fun n v F _ h => by rw [D.own] at h ⊢; exact h) (fun b v F _ h => by rw [D.own] at h ⊢; exact h) (fun n cs ih v F hk h => ?_)
  rw [D.own] at h ⊢
  obtain ⟨a, cap, h0, h1, h2, h3, h4⟩ := h
  refine ⟨a, cap, h0, h1, h2, h3, ?_⟩
  rcases h4 with h4 | ⟨hne, b, off, F', cur, e, q0, q1, rfl, q3, q4⟩
  · exact Or.inl h4
  refine Or.inr ⟨hne, b, off, F', cur, e, q0, (hk.block b (by simp) (lt_of_heap q1)).trans q1, rfl, q3, ?_⟩
  have key : ∀ (cs : List D) (off : Nat) (F'' : List Nat), (∀ c ∈ cs, ∀ v F, Keeps (· ∈ F) w w' → D.own w v c F → D.own w' v c F) → (∀ x ∈ F'', x ∈ b :: F') → D.owns w b off cs F'' → D.owns w' b off cs F'' := by
    intro cs
    induction cs with
    | nil => intro _ _ _ _ ho; rw [D.owns] at ho ⊢; exact ho
    | cons c cs ihc =>
      intro off F'' ih hsub ho
      rw [D.owns] at ho ⊢
      obtain ⟨F1, F2, rfl, hd, ⟨v, r0, r1⟩, r2⟩ := ho
      exact ⟨F1, F2, rfl, hd, ⟨v, (hk.cell (by simp) (lt_of_heap q1)).trans r0, ih c (by simp) v F1 (hk.mono fun x hx => hsub x (by simp [show x ∈ F1 from hx])) r1⟩,
        ihc _ F2 (fun c hc => ih c (by simp [hc])) (fun x hx => hsub x (by simp [hx])) r2⟩
  exact key cs off F' ih (fun x hx => by simp [hx]) q4

theorem D.own_lt {w : World} : ∀ (d : D) (v : Value) (F : List Nat), D.own w v d F → ∀ x ∈ F, x < w.heap.size := by
  refine D.ind (fun s v F h => by rw [D.own] at h; rw [h.2.2]; simp) (fun n v F h => by rw [D.own] at h; rw [h.2.2.2]; simp) (fun b v F h => by rw [D.own] at h; rw [h.2]; simp) (fun n cs ih v F h => ?_)
  rw [D.own] at h
  obtain ⟨a, cap, h0, h1, h2, h3, h4⟩ := h
  rcases h4 with ⟨_, rfl⟩ | ⟨hne, b, off, F', cur, e, q0, q1, rfl, q3, q4⟩
  · simp
  have key : ∀ (cs : List D) (off : Nat) (F'' : List Nat), (∀ c ∈ cs, ∀ v F, D.own w v c F → ∀ x ∈ F, x < w.heap.size) → D.owns w b off cs F'' → ∀ x ∈ F'', x < w.heap.size := by
    intro cs
    induction cs with
    | nil => intro _ _ _ ho; rw [D.owns] at ho; subst ho; simp
    | cons c cs ihc =>
      intro off F'' ih ho
      rw [D.owns] at ho
      obtain ⟨F1, F2, rfl, hd, ⟨v, r0, r1⟩, r2⟩ := ho
      intro x hx
      rcases List.mem_append.1 hx with hx | hx
      · exact ih c (by simp) v F1 r1 x hx
      · exact ihc _ F2 (fun c hc => ih c (by simp [hc])) r2 x hx
  intro x hx
  rcases List.mem_cons.1 hx with rfl | hx
  · exact lt_of_heap q1
  · exact key cs off F' ih q4 x hx

theorem D.owns_append {w : World} {b : Nat} : ∀ (cs : List D) (off : Nat) (ds : List D) (F G : List Nat), D.owns w b off cs F → D.owns w b (off + cs.length) ds G → (∀ x ∈ F, x ∉ G) → D.owns w b off (cs ++ ds) (F ++ G)
  | [], off, ds, F, G, h, k, _ => by rw [D.owns] at h; subst h; simpa using k
  | c :: cs, off, ds, F, G, h, k, hd => by
    rw [D.owns] at h
    obtain ⟨F1, F2, rfl, hd', hv, hr⟩ := h
    rw [List.cons_append, D.owns]
    refine ⟨F1, F2 ++ G, by simp, fun x hx => ?_, hv, D.owns_append cs (off + 1) ds F2 G hr (by rw [show off + 1 + cs.length = off + (c :: cs).length by simp; omega]; exact k) (fun x hx => hd x (by simp [hx]))⟩
    rw [List.mem_append]; rintro (q | q)
    · exact hd' x hx q
    · exact hd x (by simp [hx]) q

theorem D.owns_keep {w w' : World} {b : Nat} : ∀ (cs : List D) (off : Nat) (F : List Nat), (∀ i, i < cs.length → w'.cell? ⟨b, off + i, none⟩ = w.cell? ⟨b, off + i, none⟩) → Keeps (· ∈ F) w w' → D.owns w b off cs F → D.owns w' b off cs F
  | [], off, F, _, _, h => by rw [D.owns] at h ⊢; exact h
  | c :: cs, off, F, hc, hk, h => by
    rw [D.owns] at h ⊢
    obtain ⟨F1, F2, rfl, hd, ⟨v, q0, q1⟩, hr⟩ := h
    refine ⟨F1, F2, rfl, hd, ⟨v, (hc 0 (by simp)).trans q0, D.own_keep _ _ _ (hk.mono fun x hx => by simp [show x ∈ F1 from hx]) q1⟩, D.owns_keep cs (off + 1) F2 (fun i hi => ?_) (hk.mono fun x hx => by simp [show x ∈ F2 from hx]) hr⟩
    have := hc (i + 1) (by simpa using hi)
    rw [show off + (i + 1) = off + 1 + i by omega] at this
    exact this

/-- block b is a row of m cells of type e, none frozen, whose first cells own the data cs with the blocks F -/
def Filled (w : World) (b : Nat) (e : TypeId) (m : Nat) (cs : List D) (F : List Nat) : Prop :=
  ∃ cur, w.heap[b]? = some (.cells cur e (0, 0)) ∧ cur.size = m ∧ D.owns w b 0 cs F ∧ b ∉ F

theorem Filled.cell {w : World} {b : Nat} {e : TypeId} {m : Nat} {cs : List D} {F : List Nat} (h : Filled w b e m cs F) {p : Nat} (hp : p < m) : ∃ x, w.cell? ⟨b, p, none⟩ = some x := by
  obtain ⟨cur, h0, h1, _⟩ := h
  exact ⟨cur[p]'(by omega), by simp [World.cell?, h0]⟩
theorem Filled.free {w : World} {b : Nat} {e : TypeId} {m : Nat} {cs : List D} {F : List Nat} (h : Filled w b e m cs F) (p : Nat) : w.frozen? ⟨b, p, none⟩ = false := by
  obtain ⟨cur, h0, h1, _⟩ := h
  simp [World.frozen?, h0]
theorem Filled.lt {w : World} {b : Nat} {e : TypeId} {m : Nat} {cs : List D} {F : List Nat} (h : Filled w b e m cs F) : b < w.heap.size := by
  obtain ⟨cur, h0, h1, _⟩ := h
  exact lt_of_heap h0
theorem D.owns_lt {w : World} {b off : Nat} {cs : List D} {F : List Nat} (h : D.owns w b off cs F) : ∀ x ∈ F, x < w.heap.size := by
  induction cs generalizing off F with
  | nil => rw [D.owns] at h; subst h; simp
  | cons c cs ih =>
    rw [D.owns] at h
    obtain ⟨F1, F2, rfl, hd, ⟨v, r0, r1⟩, r2⟩ := h
    intro x hx
    rcases List.mem_append.1 hx with hx | hx
    · exact D.own_lt _ _ _ r1 x hx
    · exact ih r2 x hx
theorem Filled.ltF {w : World} {b : Nat} {e : TypeId} {m : Nat} {cs : List D} {F : List Nat} (h : Filled w b e m cs F) : ∀ x ∈ F, x < w.heap.size := by
  obtain ⟨cur, h0, h1, h2, h3⟩ := h
  exact D.owns_lt h2
theorem Filled.keep {w w' : World} {b : Nat} {e : TypeId} {m : Nat} {cs : List D} {F : List Nat} (hk : Keeps (fun x => x = b ∨ x ∈ F) w w') (h : Filled w b e m cs F) : Filled w' b e m cs F := by
  have hb := h.lt
  obtain ⟨cur, h0, h1, h2, h3⟩ := h
  exact ⟨cur, (hk.block b (.inl rfl) hb).trans h0, h1, D.owns_keep _ _ _ (fun i _ => hk.cell (.inl rfl) hb) (hk.mono fun x hx => .inr hx) h2, h3⟩
theorem heap_setCell {w : World} {b : Nat} {cur : Array Value} {e : TypeId} {p : Nat} (h : w.heap[b]? = some (.cells cur e (0, 0))) (v : Value) :
    (w.setCell ⟨b, p, none⟩ v).heap[b]? = some (.cells (cur.setIfInBounds p v) e (0, 0)) := by
  simp [World.setCell, Array.getElem?_modify, h]
theorem Filled.set {w : World} {b : Nat} {e : TypeId} {m p : Nat} {cs : List D} {F G : List Nat} {v : Value} {d : D} (h : Filled w b e m cs F) (hp : p = cs.length) (hlt : p < m) (ho : D.own w v d G) (hG : b ∉ G) (hd : ∀ x ∈ F, x ∉ G) :
    Filled (w.setCell ⟨b, p, none⟩ v) b e m (cs ++ [d]) (F ++ G) := by
  obtain ⟨cur, h0, h1, h2, h3⟩ := h
  subst hp
  have hk : ∀ (L : List Nat), b ∉ L → Keeps (· ∈ L) w (w.setCell ⟨b, cs.length, none⟩ v) := fun L hL => (Keeps.refl _ _).setCell (fun q _ => hL q) _
  refine ⟨_, heap_setCell h0 v, by simpa using h1, ?_, by simp [h3, hG]⟩
  refine D.owns_append cs 0 [d] F G (D.owns_keep _ _ _ (fun i hi => ?_) (hk F h3) h2) ?_ hd
  · exact World.cell?_setCell_other _ _ _ _ (by intro e; injection e with _ e; omega)
  · rw [D.owns]
    refine ⟨G, [], by simp, by simp, ⟨v, ?_, D.own_keep _ _ _ (hk G hG) ho⟩, by rw [D.owns]⟩
    rw [Nat.zero_add]
    refine World.cell?_setCell_same (u := cur[cs.length]'(by omega)) _ _ _ ?_
    simp [World.cell?, h0]

/-- a made row of cells -/
theorem Filled.made (w : World) (cur : Array Value) (e : TypeId) : Filled (w.alloc (.cells cur e)) w.heap.size e cur.size [] [] :=
  ⟨cur, by show (w.heap.push _)[w.heap.size]? = _; simp, rfl, by rw [D.owns], by simp⟩

/-- a row filled to its end is a slice's own -/
theorem Filled.own {w : World} {b : Nat} {e : TypeId} {m n : Nat} {cs : List D} {F : List Nat} (h : Filled w b e m cs F) (hne : cs ≠ []) {cap : Nat} (hn : n ≤ big) (hc : n ≤ cap) : D.own w (.slice (some ⟨b, 0, none⟩) n cap) (.sl n cs) (b :: F) := by
  obtain ⟨cur, h0, h1, h2, h3⟩ := h
  rw [D.own]
  exact ⟨_, _, rfl, hn, hc, fun _ => hne, Or.inr ⟨hne, b, 0, F, cur, e, rfl, h0, rfl, h3, h2⟩⟩
theorem D.own_nil {w : World} (a : Option Addr) (cap : Nat) : D.own w (.slice a 0 cap) (.sl 0 []) [] := by
  rw [D.own]; exact ⟨_, _, rfl, Nat.zero_le _, Nat.zero_le _, fun h => absurd rfl h, Or.inl ⟨rfl, rfl⟩⟩
theorem D.own_str {w : World} {s : ByteArray} (h : s.size ≤ maxLen) : D.own w (.string s) (.str s) [] := by rw [D.own]; exact ⟨rfl, h, rfl⟩
theorem D.rd_str {S : Nat → Prop} {w : World} {s : ByteArray} (h : s.size ≤ maxLen) : D.rd S w (.string s) (.str s) := by rw [D.rd]; exact ⟨rfl, h⟩

/-- behind a call that changed no old block: cells and marks of old blocks read as before -/
theorem bcell {W w1 : World} (hb : Below W.heap.size W w1) : (∀ b o, b < W.heap.size → w1.cell? ⟨b, o, none⟩ = W.cell? ⟨b, o, none⟩) ∧ (∀ b o, b < W.heap.size → w1.frozen? ⟨b, o, none⟩ = W.frozen? ⟨b, o, none⟩) :=
  ⟨fun b o h => hb.cell (p := ⟨b, o, none⟩) h, fun b o h => hb.frozen (p := ⟨b, o, none⟩) h⟩

/-- make([]E, n) -/
theorem run_mk {P : Program} {t e : TypeId} {z : Value} {size bytes : Nat} (ht : P.underlying t = some (.slice e)) (hinfo : (P.info? e).map (fun i => (i.zero, i.size, i.bytes)) = some (some z, size, bytes)) (n : Nat) (hb : bytes * n ≤ 281474976710656) (hn : n ≤ big) (w : World) :
    (Instr.makeSlice t (.int .i64 n) (.int .i64 n)).run P w = .ok (.slice (some ⟨w.heap.size, 0, none⟩) n n) (w.alloc (.cells (madeCells z.cells (n * size)) e)) := by
  obtain ⟨i, hi, hz⟩ : ∃ i, P.info? e = some i ∧ (i.zero, i.size, i.bytes) = (some z, size, bytes) := by
    cases h : P.info? e with
    | none => rw [h] at hinfo; cases hinfo
    | some i => rw [h] at hinfo; exact ⟨i, rfl, by simpa using hinfo⟩
  injection hz with hz0 hz1; injection hz1 with hz1 hz2
  subst hz1 hz2
  unfold big at hn
  have := run_make (P := P) w t e i z ht hi hz0 .i64 .i64 (n : Int) (n : Int) (by omega) (by omega) (by rw [← Int.natCast_mul]; omega) (by omega)
  simpa using this

theorem ret_bool {a b : Bool} (h : a = b) : Ending.returned (.bool a) = .returned (.bool b) := by rw [h]
theorem ret_i64 {a b : Int} (h : a = b) : Ending.returned (.int .i64 a) = .returned (.int .i64 b) := by rw [h]

theorem toList_ne {a b : ByteArray} (h : a ≠ b) : (a.toList == b.toList) = false := by
  rw [beq_eq_false_iff_ne]
  intro e
  rw [ByteArray.toList_eq, ByteArray.toList_eq] at e
  exact h (by cases a; cases b; congr 1; exact Array.toList_inj.1 e)
theorem toList_beq (a b : ByteArray) : (a.toList == b.toList) = decide (a = b) := by
  by_cases h : a = b
  · subst h; simp
  · rw [toList_ne h]; simp [h]

theorem box1 (w : World) (c0 : Array Value) (t0 : TypeId) (i : Nat) : (w.alloc (.cells c0 t0)).cell? ⟨w.heap.size, i, none⟩ = c0[i]? := World.cell?_alloc_new _ _ _ _
theorem box2 (w : World) (c0 c1 : Array Value) (t0 t1 : TypeId) (i : Nat) : ((w.alloc (.cells c0 t0)).alloc (.cells c1 t1)).cell? ⟨w.heap.size, i, none⟩ = c0[i]? ∧ ((w.alloc (.cells c0 t0)).alloc (.cells c1 t1)).cell? ⟨w.heap.size + 1, i, none⟩ = c1[i]? := by
  refine ⟨?_, ?_⟩
  · rw [World.cell?_alloc_old _ _ _ (by simp)]; exact box1 _ _ _ _
  · have := box1 (w.alloc (.cells c0 t0)) c1 t1 i
    rwa [World.size_alloc] at this
theorem box3 (w : World) (c0 c1 c2 : Array Value) (t0 t1 t2 : TypeId) (i : Nat) : (((w.alloc (.cells c0 t0)).alloc (.cells c1 t1)).alloc (.cells c2 t2)).cell? ⟨w.heap.size, i, none⟩ = c0[i]? ∧ (((w.alloc (.cells c0 t0)).alloc (.cells c1 t1)).alloc (.cells c2 t2)).cell? ⟨w.heap.size + 1, i, none⟩ = c1[i]? ∧ (((w.alloc (.cells c0 t0)).alloc (.cells c1 t1)).alloc (.cells c2 t2)).cell? ⟨w.heap.size + 1 + 1, i, none⟩ = c2[i]? := by
  refine ⟨?_, ?_, ?_⟩
  · rw [World.cell?_alloc_old _ _ _ (by simp; omega)]; exact (box2 _ _ _ _ _ _).1
  · rw [World.cell?_alloc_old _ _ _ (by simp)]; exact (box2 _ _ _ _ _ _).2
  · have := box1 ((w.alloc (.cells c0 t0)).alloc (.cells c1 t1)) c2 t2 i
    rwa [World.size_alloc, World.size_alloc] at this

/-- a cell that is there is as it was behind an alloc -/
theorem cell_alloc {w : World} {a : Addr} {v : Value} (h : w.cell? a = some v) (o : Obj) : (w.alloc o).cell? a = some v :=
  (World.cell?_alloc_lt w o a (World.block_lt_of_cell? w a h)).trans h

/-- a box of cells, and what keeps it -/
structure Box (w : World) (b : Nat) (cs : List Value) : Prop where
  lt : b < w.heap.size
  cell : ∀ i (h : i < cs.length), w.cell? ⟨b, i, none⟩ = some cs[i]
theorem Box.new (w : World) (cs : List Value) (t : TypeId) : Box (w.alloc (.cells cs.toArray t)) w.heap.size cs :=
  ⟨by simp, fun i h => by rw [box1]; simp [h]⟩
theorem Box.keep {w w' : World} {b : Nat} {cs : List Value} (h : Box w b cs) (hb : Below w.heap.size w w') : Box w' b cs :=
  ⟨Nat.lt_of_lt_of_le h.lt hb.size, fun i hi => (hb.cell h.lt).trans (h.cell i hi)⟩
theorem Box.alloc {w : World} {b : Nat} {cs : List Value} (h : Box w b cs) (o : Obj) : Box (w.alloc o) b cs :=
  h.keep ((Below.refl _ _).alloc (Nat.le_refl _) o)
theorem Box.c0 {w : World} {b : Nat} {x : Value} {cs : List Value} (h : Box w b (x :: cs)) : w.cell? ⟨b, 0, none⟩ = some x := h.cell 0 (by simp)
theorem Box.c1 {w : World} {b : Nat} {x y : Value} {cs : List Value} (h : Box w b (x :: y :: cs)) : w.cell? ⟨b, 1, none⟩ = some y := h.cell 1 (by simp)
theorem Box.c2 {w : World} {b : Nat} {x y z : Value} {cs : List Value} (h : Box w b (x :: y :: z :: cs)) : w.cell? ⟨b, 2, none⟩ = some z := h.cell 2 (by simp)
end Go.Proofs.YtooocakkjdhfiaaGreatDoor
/- Terms: trees of names, as data. -/
namespace Go.Proofs.YtooocakkjdhfiaaGreatDoor
set_option maxRecDepth 100000
open Go.RowKit

/-- a tree of names -/
inductive Tm where
  | node (name : ByteArray) (args : List Tm)

def Tm.name : Tm → ByteArray | .node n _ => n
def Tm.args : Tm → List Tm | .node _ ts => ts

theorem Tm.ind {P : Tm → Prop} (h : ∀ n ts, (∀ a ∈ ts, P a) → P (.node n ts)) : ∀ t, P t
  | .node n ts => h n ts (go ts)
where
  go : ∀ ts : List Tm, ∀ a ∈ ts, P a
    | [], _, hm => by cases hm
    | t :: ts, a, hm => by
      cases hm with
      | head => exact Tm.ind h t
      | tail _ hm => exact go ts a hm

mutual
/-- the cells of a term -/
def Tm.cs : Tm → List D
  | .node n ts => [D.str n, D.sl ts.length (Tm.css ts)]
def Tm.css : List Tm → List D
  | [] => []
  | t :: ts => Tm.cs t ++ Tm.css ts
end
/-- the datum of a slice of terms -/
def Tm.sd (ts : List Tm) : D := .sl ts.length (Tm.css ts)

mutual
/-- how many letters and arguments a tree holds -/
def Tm.bulk : Tm → Nat
  | .node n ts => n.size + ts.length + Tm.bulks ts
def Tm.bulks : List Tm → Nat
  | [] => 0
  | t :: ts => Tm.bulk t + Tm.bulks ts
end

theorem Tm.bulks_le : ∀ (ts : List Tm) (k : Nat), Tm.bulks (ts.take k) ≤ Tm.bulks ts
  | [], k => by simp
  | t :: ts, 0 => by simp [Tm.bulks]
  | t :: ts, k + 1 => by
    have := Tm.bulks_le ts k
    simp only [List.take_succ_cons, Tm.bulks]; omega
theorem Tm.bulks_take : ∀ (ts : List Tm) (k : Nat) (hk : k < ts.length), Tm.bulks (ts.take (k + 1)) = Tm.bulks (ts.take k) + ts[k].bulk
  | [], k, hk => absurd hk (by simp)
  | t :: ts, 0, _ => by simp [Tm.bulks]
  | t :: ts, k + 1, hk => by
    have := Tm.bulks_take ts k (by simpa using hk)
    simp only [List.take_succ_cons, Tm.bulks, this, List.getElem_cons_succ]; omega
theorem Tm.bulk_mem {ts : List Tm} {t : Tm} (h : t ∈ ts) : t.bulk ≤ Tm.bulks ts := by
  induction ts with
  | nil => cases h
  | cons a ts ih =>
    rw [Tm.bulks]
    rcases List.mem_cons.1 h with rfl | h
    · omega
    · have := ih h; omega

theorem Tm.css_length : ∀ ts : List Tm, (Tm.css ts).length = ts.length * 2
  | [] => by simp [Tm.css]
  | .node n us :: ts => by simp [Tm.css, Tm.cs, Tm.css_length ts]; omega
theorem Tm.css_ne {ts : List Tm} (h : ts ≠ []) : Tm.css ts ≠ [] := by
  intro e
  have := Tm.css_length ts
  rw [e] at this
  exact h (List.length_eq_zero_iff.1 (by simp at this; omega))
theorem Tm.css_get : ∀ (ts : List Tm) (k : Nat) (hk : k < ts.length), (Tm.css ts)[k * 2]? = some (.str ts[k].name) ∧ (Tm.css ts)[k * 2 + 1]? = some (Tm.sd ts[k].args)
  | [], k, hk => absurd hk (by simp)
  | .node n us :: ts, 0, _ => by simp [Tm.css, Tm.cs, Tm.name, Tm.args, Tm.sd]
  | .node n us :: ts, k + 1, hk => by
    have := Tm.css_get ts k (by simpa using hk)
    rw [show (k + 1) * 2 = k * 2 + 2 by omega]
    simpa [Tm.css, Tm.cs] using this
theorem Tm.css_take_succ (ts : List Tm) (k : Nat) (hk : k < ts.length) : Tm.css (ts.take (k + 1)) = Tm.css (ts.take k) ++ [.str ts[k].name, Tm.sd ts[k].args] := by
  induction ts generalizing k with
  | nil => exact absurd hk (by simp)
  | cons t ts ih =>
    cases k with
    | zero => cases t; simp [Tm.css, Tm.cs, Tm.name, Tm.args, Tm.sd]
    | succ k => simp [Tm.css, ih k (by simpa using hk)]

/-- two cells read as a term -/
def Tm.at (S : Nat → Prop) (w : World) (c0 c1 : Value) (t : Tm) : Prop := D.rd S w c0 (.str t.name) ∧ D.rd S w c1 (Tm.sd t.args)

theorem Tm.at_keep {S : Nat → Prop} {w w' : World} {c0 c1 : Value} {t : Tm} (hk : Keeps S w w') (h : Tm.at S w c0 c1 t) : Tm.at S w' c0 c1 t :=
  ⟨D.rd_keep hk _ _ h.1, D.rd_keep hk _ _ h.2⟩
theorem Tm.at_mono {S S' : Nat → Prop} {w : World} {c0 c1 : Value} {t : Tm} (hs : ∀ b, S b → S' b) (h : Tm.at S w c0 c1 t) : Tm.at S' w c0 c1 t :=
  ⟨D.rd_mono hs _ _ h.1, D.rd_mono hs _ _ h.2⟩

theorem Tm.at_form {S : Nat → Prop} {w : World} {c0 c1 : Value} {t : Tm} (h : Tm.at S w c0 c1 t) : c0 = .string t.name ∧ t.name.size ≤ maxLen ∧ ∃ a cap, c1 = .slice a t.args.length cap := by
  obtain ⟨h0, h1⟩ := h
  rw [D.rd] at h0
  rw [Tm.sd, D.rd] at h1
  obtain ⟨a, cap, e, _⟩ := h1
  exact ⟨h0.1, h0.2, a, cap, e⟩
theorem Tm.sd_form {S : Nat → Prop} {w : World} {v : Value} {ts : List Tm} (h : D.rd S w v (Tm.sd ts)) : ∃ a cap, v = .slice a ts.length cap ∧ ts.length ≤ big ∧ ts.length ≤ cap := by
  rw [Tm.sd, D.rd] at h
  obtain ⟨a, cap, e, h1, h2, _⟩ := h
  exact ⟨a, cap, e, h1, h2⟩
theorem Tm.sd_get {S : Nat → Prop} {w : World} {a : Option Addr} {n cap : Nat} {ts : List Tm} (h : D.rd S w (.slice a n cap) (Tm.sd ts)) (hne : ts ≠ []) : ∃ b off, a = some ⟨b, off, none⟩ ∧ S b ∧ b < w.heap.size ∧
    ∀ k (hk : k < ts.length), ∃ c0 c1, w.cell? ⟨b, off + k * 2, none⟩ = some c0 ∧ w.cell? ⟨b, off + k * 2 + 1, none⟩ = some c1 ∧ Tm.at S w c0 c1 ts[k] := by
  rw [Tm.sd, D.rd] at h
  obtain ⟨a', cap', e, h1, h2, h3, h4⟩ := h
  injection e with e0 e1 e2
  subst e0
  obtain ⟨b, off, q0, q1, q2, q3⟩ := h4 (Tm.css_ne hne)
  refine ⟨b, off, q0, q1, q2, fun k hk => ?_⟩
  obtain ⟨g0, g1⟩ := Tm.css_get ts k hk
  obtain ⟨c0, r0, r1⟩ := D.rds_get q3 g0
  obtain ⟨c1, r2, r3⟩ := D.rds_get q3 g1
  exact ⟨c0, c1, r0, by rw [← r2]; congr 2, r1, r3⟩

/-- two cells own a term -/
def Tm.own (w : World) (c0 c1 : Value) (t : Tm) (F : List Nat) : Prop := c0 = .string t.name ∧ t.name.size ≤ maxLen ∧ D.own w c1 (Tm.sd t.args) F
theorem Tm.own_at {w : World} {c0 c1 : Value} {t : Tm} {F : List Nat} (h : Tm.own w c0 c1 t F) : Tm.at (· ∈ F) w c0 c1 t := by
  obtain ⟨rfl, h1, h2⟩ := h
  exact ⟨D.rd_str h1, D.own_rd _ _ _ h2⟩
theorem Tm.own_keep {w w' : World} {c0 c1 : Value} {t : Tm} {F : List Nat} (hk : Keeps (· ∈ F) w w') (h : Tm.own w c0 c1 t F) : Tm.own w' c0 c1 t F :=
  ⟨h.1, h.2.1, D.own_keep _ _ _ hk h.2.2⟩
theorem Tm.sd_own_form {w : World} {v : Value} {ts : List Tm} {F : List Nat} (h : D.own w v (Tm.sd ts) F) : ∃ a cap, v = .slice a ts.length cap := by
  rw [Tm.sd, D.own] at h
  obtain ⟨a, cap, e, _⟩ := h
  exact ⟨a, cap, e⟩

mutual
/-- are two trees one? -/
def Tm.eqb : Tm → Tm → Bool
  | .node n ts, .node m us => decide (n = m) && Tm.eqbs ts us
def Tm.eqbs : List Tm → List Tm → Bool
  | [], [] => true
  | t :: ts, u :: us => Tm.eqb t u && Tm.eqbs ts us
  | _, _ => false
end
theorem Tm.eqb_iff (t : Tm) : ∀ u, Tm.eqb t u = true ↔ t = u := by
  refine Tm.ind (P := fun t => ∀ u, Tm.eqb t u = true ↔ t = u) (fun n ts ih u => ?_) t
  obtain ⟨m, us⟩ := u
  rw [Tm.eqb]
  have key : ∀ ts us : List Tm, (∀ a ∈ ts, ∀ u, Tm.eqb a u = true ↔ a = u) → (Tm.eqbs ts us = true ↔ ts = us) := by
    intro ts
    induction ts with
    | nil => intro us _; cases us <;> simp [Tm.eqbs]
    | cons t ts iht =>
      intro us h
      cases us with
      | nil => simp [Tm.eqbs]
      | cons u us => simp [Tm.eqbs, h t (by simp) u, iht us fun a ha => h a (by simp [ha])]
  simp [key ts us ih]
theorem Tm.eqbs_iff (ts us : List Tm) : Tm.eqbs ts us = true ↔ ts = us := by
  have := Tm.eqb_iff (.node ⟨#[]⟩ ts) (.node ⟨#[]⟩ us)
  simpa [Tm.eqb] using this
theorem Tm.eqbs_length {ts us : List Tm} (h : ts.length ≠ us.length) : Tm.eqbs ts us = false := by
  rw [Bool.eq_false_iff]; intro e; exact h (by rw [(Tm.eqbs_iff _ _).1 e])
/-- as far as k the two lists are one, at k they part -/
theorem Tm.eqbs_at {ts us : List Tm} {k : Nat} (h1 : k < ts.length) (h2 : k < us.length) (hn : Tm.eqb ts[k] us[k] = false) : Tm.eqbs ts us = false := by
  rw [Bool.eq_false_iff]; intro e
  have := (Tm.eqbs_iff _ _).1 e
  subst this
  rw [(Tm.eqb_iff _ _).2 rfl] at hn
  exact absurd hn (by simp)
theorem Tm.eqbs_take {ts us : List Tm} {k : Nat} (h1 : k < ts.length) (h2 : k < us.length) (h : ts.take k = us.take k) (hn : Tm.eqb ts[k] us[k] = true) : ts.take (k + 1) = us.take (k + 1) := by
  rw [List.take_succ_eq_append_getElem h1, List.take_succ_eq_append_getElem h2, h, (Tm.eqb_iff _ _).1 hn]
end Go.Proofs.YtooocakkjdhfiaaGreatDoor
/- From the reading of an argument to the data of cells. -/
namespace Go.Proofs.YtooocakkjdhfiaaGreatDoor
set_option maxRecDepth 100000
open Go.RowKit Go.ChangeShapes Go.WideShapes

/-- every item has m cells -/
def Wide {α : Type} (enc : α → List D) (m : Nat) : Prop := ∀ y, (enc y).length = m

theorem flat_length {α : Type} {enc : α → List D} {m : Nat} (hw : Wide enc m) (ys : List α) : (ys.flatMap enc).length = ys.length * m := by
  induction ys with
  | nil => simp
  | cons y ys ih => rw [List.flatMap_cons, List.length_append, ih, hw y, List.length_cons, Nat.add_mul, Nat.one_mul, Nat.add_comm]
theorem flat_get {α : Type} {enc : α → List D} {m : Nat} (hw : Wide enc m) (ys : List α) (k j : Nat) (hk : k < ys.length) (hj : j < m) : (ys.flatMap enc)[k * m + j]? = (enc ys[k])[j]? := by
  induction ys generalizing k with
  | nil => exact absurd hk (by simp)
  | cons y ys ih =>
    rw [List.flatMap_cons]
    cases k with
    | zero => rw [Nat.zero_mul, Nat.zero_add, List.getElem?_append_left (by rw [hw y]; exact hj)]; rfl
    | succ k =>
      rw [List.getElem?_append_right (by rw [hw y, Nat.add_mul, Nat.one_mul]; omega), hw y, show (k + 1) * m + j - m = k * m + j by rw [Nat.add_mul, Nat.one_mul]; omega, ih k (by simpa using hk)]
      rfl
theorem flat_ne {α : Type} {enc : α → List D} {m : Nat} (hw : Wide enc m) (hm : 0 < m) {ys : List α} (h : ys ≠ []) : ys.flatMap enc ≠ [] := by
  intro e
  have := flat_length hw ys
  rw [e] at this
  have h0 : ys.length * m = 0 := by simpa using this.symm
  rcases Nat.mul_eq_zero.1 h0 with h1 | h1
  · exact h (List.length_eq_zero_iff.1 h1)
  · omega
theorem flat_take_succ {α : Type} {enc : α → List D} (ys : List α) (k : Nat) (hk : k < ys.length) : (ys.take (k + 1)).flatMap enc = (ys.take k).flatMap enc ++ enc ys[k] := by
  rw [List.take_succ_eq_append_getElem hk, List.flatMap_append]; simp

/-- the datum of a slice of items -/
def slOf {α : Type} (enc : α → List D) (ys : List α) : D := .sl ys.length (ys.flatMap enc)

theorem slOf_form {α : Type} {enc : α → List D} {S : Nat → Prop} {w : World} {v : Value} {ys : List α} (h : D.rd S w v (slOf enc ys)) : ∃ a cap, v = .slice a ys.length cap ∧ ys.length ≤ big ∧ ys.length ≤ cap := by
  rw [slOf, D.rd] at h
  obtain ⟨a, cap, e, h1, h2, _⟩ := h
  exact ⟨a, cap, e, h1, h2⟩
theorem slOf_get {α : Type} {enc : α → List D} {m : Nat} (hw : Wide enc m) (hm : 0 < m) {S : Nat → Prop} {w : World} {a : Option Addr} {n cap : Nat} {ys : List α} (h : D.rd S w (.slice a n cap) (slOf enc ys)) (hne : ys ≠ []) :
    ∃ b off, a = some ⟨b, off, none⟩ ∧ S b ∧ b < w.heap.size ∧ ∀ k (hk : k < ys.length) j d, (enc ys[k])[j]? = some d → ∃ v, w.cell? ⟨b, off + (k * m + j), none⟩ = some v ∧ D.rd S w v d := by
  rw [slOf, D.rd] at h
  obtain ⟨a', cap', e, h1, h2, h3, h4⟩ := h
  injection e with e0 e1 e2
  subst e0
  obtain ⟨b, off, q0, q1, q2, q3⟩ := h4 (flat_ne hw hm hne)
  refine ⟨b, off, q0, q1, q2, fun k hk j d hd => ?_⟩
  have hj : j < m := by
    have := (List.getElem?_eq_some_iff.1 hd).1
    rwa [hw] at this
  exact D.rds_get q3 (by rw [flat_get hw ys k j hk hj]; exact hd)

/-- cells that read, one by one -/
def CellsRd (S : Nat → Prop) (w : World) : List Value → List D → Prop
  | [], [] => True
  | v :: vs, d :: ds => D.rd S w v d ∧ CellsRd S w vs ds
  | _, _ => False

theorem CellsRd.get {S : Nat → Prop} {w : World} : ∀ {vs : List Value} {ds : List D}, CellsRd S w vs ds → vs.length = ds.length ∧ ∀ (i : Nat) v d, vs[i]? = some v → ds[i]? = some d → D.rd S w v d
  | [], [], _ => ⟨rfl, fun i v d h => by simp at h⟩
  | [], _ :: _, h => h.elim
  | _ :: _, [], h => h.elim
  | v :: vs, d :: ds, ⟨h0, h1⟩ => by
    obtain ⟨g0, g1⟩ := CellsRd.get h1
    refine ⟨by simp [g0], fun i v' d' hv hd => ?_⟩
    cases i with
    | zero => simp at hv hd; subst hv hd; exact h0
    | succ i => exact g1 i v' d' (by simpa using hv) (by simpa using hd)

theorem spot_none {w : World} {a : Addr} {v : Value} (h : w.cell? a = some v) : a = ⟨a.block, a.off, none⟩ := by
  obtain ⟨b, o, s⟩ := a
  cases s with
  | none => rfl
  | some s =>
    unfold World.cell? at h
    split at h
    · simp at h
    · simp at h

section
variable {H : Type} {enc' : TypeId × Value → H} {P : Program} {w : World}

/-- a slice of items that read -/
theorem open_slOf {α : Type} {enc : α → List D} {m : Nat} (hw : Wide enc m) (hm : 0 < m) {t e : TypeId} (ht : P.underlying t = some (.slice e)) (he : P.cellsOf e = m) {fuel : Nat} {cs : List Value} {x : DataW H × List MemPlace}
    (hel : ∀ n cs x, n < fuel → DataW.trod enc' P w 0 (fun _ => true) true n e cs = some x → ∃ y, CellsRd (fun _ => True) w cs (enc y))
    (h : DataW.trod enc' P w 0 (fun _ => true) true fuel t cs = some x) : ∃ v ys, cs = [v] ∧ D.rd (fun _ => True) w v (slOf enc ys) := by
  rcases DataW.trod_slice ht h with ⟨rfl, rfl⟩ | ⟨a, len, cap, elems, rest, n, rfl, rfl, rfl, hb, hl, hcm, hlen, hels, _, _⟩
  · refine ⟨_, [], rfl, ?_⟩
    rw [slOf, D.rd]
    exact ⟨none, 0, rfl, Nat.zero_le _, Nat.zero_le _, fun h => absurd rfl h, fun h => absurd rfl h⟩
  · have hrow : ∀ i, i < len → ∃ (y : α) (cs' : List Value), w.cells? 0 (a.add (i * P.cellsOf e)) (P.cellsOf e) = some cs' ∧ CellsRd (fun _ => True) w cs' (enc y) := by
      intro i hi
      have hx := hels i hi
      rw [List.getElem?_eq_getElem (by omega : i < elems.length)] at hx
      rw [Option.bind_eq_some_iff] at hx
      obtain ⟨cs', hc, hx⟩ := hx
      obtain ⟨y, hy⟩ := hel n cs' _ (Nat.lt_succ_self n) hx
      exact ⟨y, cs', hc, hy⟩
    have hys : ∀ k, k ≤ len → ∃ ys : List α, ys.length = k ∧ ∀ i (hi : i < ys.length), ∃ cs' : List Value, w.cells? 0 (a.add (i * P.cellsOf e)) (P.cellsOf e) = some cs' ∧ CellsRd (fun _ => True) w cs' (enc ys[i]) := by
      intro k
      induction k with
      | zero => intro _; exact ⟨[], rfl, fun i hi => absurd hi (by simp)⟩
      | succ k ih =>
        intro hk
        obtain ⟨ys, hl', hy⟩ := ih (by omega)
        obtain ⟨y, cs', hc, hr⟩ := hrow k (by omega)
        refine ⟨ys ++ [y], by simp [hl'], fun i hi => ?_⟩
        by_cases hik : i < ys.length
        · rw [List.getElem_append_left hik]; exact hy i hik
        · have hi' : i = ys.length := by simp at hi; omega
          subst hi'
          rw [List.getElem_append_right (Nat.le_refl _)]
          simp only [Nat.sub_self, List.getElem_singleton]
          rw [hl']
          exact ⟨cs', hc, hr⟩
    obtain ⟨ys, hyl, hy⟩ := hys len (Nat.le_refl _)
    refine ⟨_, ys, rfl, ?_⟩
    rw [slOf, D.rd]
    have hmx : maxLen = big := rfl
    refine ⟨some a, cap, by rw [hyl], by omega, by omega, fun h0 => ?_, fun hne => ?_⟩
    · exact flat_ne hw hm (by intro e; subst e; simp at h0)
    · have hlen0 : 0 < ys.length := by
        rcases ys with _ | ⟨y, ys⟩
        · simp at hne
        · simp
      have hcell : ∀ i (hi : i < ys.length) j d, (enc ys[i])[j]? = some d → ∃ v, w.cell? (a.add (i * m + j)) = some v ∧ D.rd (fun _ => True) w v d := by
        intro i hi j d hd
        obtain ⟨cs', hc, hr⟩ := hy i hi
        obtain ⟨g0, g1⟩ := hr.get
        have hj : j < m := by
          have := (List.getElem?_eq_some_iff.1 hd).1
          rwa [hw] at this
        obtain ⟨_, hlc, hcc⟩ := World.cells?_some hc
        have hv : cs'[j]? = some (cs'[j]'(by rw [g0, hw]; exact hj)) := List.getElem?_eq_getElem _
        refine ⟨_, ?_, g1 j _ d hv hd⟩
        have := hcc j (by rw [he]; exact hj)
        rw [hv, he, Go.Deep.add_add] at this
        exact this
      have hfirst : ∃ d, (enc (ys[0]'hlen0))[0]? = some d := ⟨_, List.getElem?_eq_getElem (by rw [hw]; exact hm)⟩
      obtain ⟨d0, hd0⟩ := hfirst
      obtain ⟨v0, hv0, _⟩ := hcell 0 hlen0 0 d0 hd0
      have ha : a = ⟨a.block, a.off, none⟩ := by
        have := spot_none hv0
        simpa [Addr.add] using this
      refine ⟨a.block, a.off, congrArg some ha, trivial, ?_, (D.rds_iff _ _).2 fun i hi => ?_⟩
      · have := World.block_lt_of_cell? _ _ hv0
        simpa [Addr.add] using this
      · have hfl := flat_length hw ys
        have hdm : i / m < ys.length := by
          rw [Nat.div_lt_iff_lt_mul hm]; omega
        have hmod : i % m < m := Nat.mod_lt _ hm
        have hid : i / m * m + i % m = i := by rw [Nat.mul_comm]; exact Nat.div_add_mod i m
        have hg := flat_get hw ys (i / m) (i % m) hdm hmod
        rw [hid, List.getElem?_eq_getElem hi] at hg
        obtain ⟨v, q0, q1⟩ := hcell (i / m) hdm (i % m) _ hg.symm
        refine ⟨v, ?_, q1⟩
        rw [hid] at q0
        rw [← q0]
        congr 1
        rw [ha]
        simp only [Addr.add]
        split
        · rename_i h0; subst h0; rfl
        · rfl
end
end Go.Proofs.YtooocakkjdhfiaaGreatDoor
/- An argument that is a term, or a slice of terms, read as data. -/
namespace Go.Proofs.YtooocakkjdhfiaaGreatDoor
set_option maxRecDepth 100000
open Go.RowKit Go.ChangeShapes Go.WideShapes

theorem Tm.cs_wide : Wide Tm.cs 2 := fun y => by cases y; simp [Tm.cs]
theorem Tm.css_flat (ts : List Tm) : Tm.css ts = ts.flatMap Tm.cs := by
  induction ts with
  | nil => simp [Tm.css]
  | cons t ts ih => simp [Tm.css, ih]
theorem Tm.sd_slOf (ts : List Tm) : Tm.sd ts = slOf Tm.cs ts := by rw [Tm.sd, slOf, Tm.css_flat]

theorem len2 {α : Type} {l : List α} (h : l.length = 2) : ∃ a b, l = [a, b] := by
  match l, h with
  | [a, b], _ => exact ⟨a, b, rfl⟩

theorem cellsStr : Tryz.prog.cellsOf 9 = 1 := by kernel_rfl
theorem cellsLTermS : Tryz.prog.cellsOf 42 = 1 := by kernel_rfl
theorem cellsLTerm : Tryz.prog.cellsOf 44 = 2 := by kernel_rfl

section
variable {H : Type} {enc' : TypeId × Value → H} {w : World}

theorem read_term : ∀ (fuel : Nat) (cs : List Value) (x : DataW H × List MemPlace), DataW.trod enc' Tryz.prog w 0 (fun _ => true) true fuel 44 cs = some x → ∃ t : Tm, CellsRd (fun _ => True) w cs t.cs := by
  intro fuel
  induction fuel using Nat.strongRecOn with
  | _ fuel ih =>
    intro cs x h
    obtain ⟨xs, n, rfl, rfl, hl, hlen, hf⟩ := DataW.trod_struct Tryz.underlying44 h
    rw [cellsLTerm] at hl
    obtain ⟨c0, c1, rfl⟩ := len2 hl
    have h0 := hf 0 _ rfl
    have h1 := hf 1 _ rfl
    have g0 : ∃ x0, xs[0]? = some x0 := ⟨_, List.getElem?_eq_getElem (by rw [hlen]; decide)⟩
    have g1 : ∃ x1, xs[1]? = some x1 := ⟨_, List.getElem?_eq_getElem (by rw [hlen]; decide)⟩
    obtain ⟨x0, g0⟩ := g0
    obtain ⟨x1, g1⟩ := g1
    rw [g0] at h0
    rw [g1] at h1
    obtain ⟨s, hs, -, hsz⟩ := DataW.trod_string Tryz.underlying9 h0
    have hs' : c0 = .string s := by simpa [cellsStr] using hs
    obtain ⟨v, ts, hv, hr⟩ := open_slOf Tm.cs_wide (by decide) Tryz.underlying42 cellsLTerm (fun m cs' x' hm hx => ih m (by omega) cs' x' hx) h1
    have hv' : c1 = v := by simpa [cellsLTermS] using hv
    subst hs' hv'
    refine ⟨.node s ts, ?_⟩
    rw [Tm.cs]
    exact ⟨D.rd_str hsz, by rw [← Tm.sd, Tm.sd_slOf]; exact hr, trivial⟩


theorem open_Term {r : Reach} {b0 : Nat} {v : Value} {d : DataW H} {p : List MemPlace} (hv : Value.okWide Tryz.prog w r b0 44 v) (h : DataW.Trod enc' Tryz.prog w 0 (fun _ => true) true 44 v d p) :
    ∃ c0 c1 t, v = .agg #[c0, c1] ∧ Tm.at (fun _ => True) w c0 c1 t := by
  obtain ⟨cs, rfl, hsz⟩ := okWide_struct Tryz.underlying44 hv
  obtain ⟨fuel, hf⟩ := h
  obtain ⟨t, ht⟩ := read_term fuel _ _ hf
  obtain ⟨n, ts⟩ := t
  have hl : cs.toList.length = 2 := by simpa using hsz.trans cellsLTerm
  obtain ⟨c0, c1, hc⟩ := len2 hl
  have e : cs = #[c0, c1] := by apply Array.toList_inj.1; rw [hc]
  subst e
  rw [Tm.cs] at ht
  exact ⟨c0, c1, .node n ts, rfl, ht.1, ht.2.1⟩
end
theorem laidOut : laidOutB Tryz.prog = true := by kernel_rfl
theorem own : ownKnob Tryz.prog.godebug = none := by kernel_rfl
end Go.Proofs.YtooocakkjdhfiaaGreatDoor
/- How much of a bound a term leaves. -/
namespace Go.Proofs.YtooocakkjdhfiaaGreatDoor
set_option maxRecDepth 100000
open Go.RowKit

def after (n : Nat) (left : Int) : Int := if (n : Int) ≤ left then left - n else -1
theorem after_neg {n : Nat} {left : Int} (h : left < n) : after n left = -1 := by unfold after; rw [if_neg (by omega)]
theorem after_pos {n : Nat} {left : Int} (h : n ≤ left) : after n left = left - n := by unfold after; rw [if_pos h]

def SzTerm (t : Tm) : Prop := ∀ (S : Nat → Prop) (c0 c1 : Value) (left : Int) (w : World), Tm.at S w c0 c1 t → 0 ≤ left → left ≤ 1048576 →
  Calls Tryz.prog 47 #[.agg #[c0, c1], .int .i64 left] w fun e w' => e = .returned (.int .i64 (after t.bulk left)) ∧ Below w.heap.size w w'
def SzTermS (ts : List Tm) : Prop := ∀ (S : Nat → Prop) (v : Value) (left : Int) (w : World), D.rd S w v (Tm.sd ts) → 0 ≤ left → left ≤ 1048576 →
  Calls Tryz.prog 68 #[v, .int .i64 left] w fun e w' => e = .returned (.int .i64 (after (ts.length + Tm.bulks ts) left)) ∧ Below w.heap.size w w'

set_option maxHeartbeats 400000 in
theorem szTerm_of (n : ByteArray) (ts : List Tm) (h : SzTermS ts) : SzTerm (.node n ts) := by
  intro S c0 c1 left w hr h0 h1
  obtain ⟨rfl, hn, _⟩ := Tm.at_form hr
  have hs := hr.2
  simp only [Tm.name, Tm.args] at hn hs ⊢
  clear hr
  have hs' : D.rd S (w.alloc (.cells #[.string n, c1] 44)) c1 (Tm.sd ts) := D.rd_below ((Below.refl _ _).alloc (Nat.le_refl _) _) hs
  unfold maxLen at hn
  by_cases hl : left < n.size
  · have hx : left < (Tm.node n ts).bulk := by rw [Tm.bulk]; omega
    have HX := hid (after_neg hx); clear hx
    go_enter Tryz.func47, Tryz.ntmps47
    go_wp2_with fail
    go_ret
    exact ⟨ret_i64 HX.out.symm, (Below.refl _ _).alloc (Nat.le_refl _) _⟩
  · by_cases hl2 : left - n.size < ts.length + Tm.bulks ts
    · have HX := hid (after_neg (n := (Tm.node n ts).bulk) (left := left) (by rw [Tm.bulk]; omega))
      have HY := hid (after_neg (n := ts.length + Tm.bulks ts) (left := left - n.size) (by omega))
      go_enter Tryz.func47, Tryz.ntmps47
      go_wp2_with fail
      refine (h _ _ _ _ hs' (by omega) (by omega)).mono ?_
      rintro e w' ⟨rfl, hb⟩
      rw [HY.out]
      go_wp2_with fail
      go_ret
      exact ⟨ret_i64 HX.out.symm, ((Below.refl _ _).alloc (Nat.le_refl _) _).trans (hb.mono (by simp))⟩
    · have HX := hid (after_pos (n := (Tm.node n ts).bulk) (left := left) (by rw [Tm.bulk]; omega))
      have HY := hid (after_pos (n := ts.length + Tm.bulks ts) (left := left - n.size) (by omega))
      go_enter Tryz.func47, Tryz.ntmps47
      go_wp2_with fail
      refine (h _ _ _ _ hs' (by omega) (by omega)).mono ?_
      rintro e w' ⟨rfl, hb⟩
      rw [HY.out]
      go_wp2_with fail
      go_ret
      exact ⟨ret_i64 (by rw [HX.out, Tm.bulk]; omega), ((Below.refl _ _).alloc (Nat.le_refl _) _).trans (hb.mono (by simp))⟩
set_option maxHeartbeats 400000 in
theorem szTermS_of (ts : List Tm) (h : ∀ t ∈ ts, SzTerm t) : SzTermS ts := by
  intro S v left w hr h0 h1
  obtain ⟨a, cap, rfl, hlen, hcap⟩ := Tm.sd_form hr
  unfold big at hlen
  by_cases hl : left < ts.length
  · have hx : left < (ts.length + Tm.bulks ts : Nat) := by omega
    have HX := hid (after_neg hx); clear hx
    go_enter Tryz.func68, Tryz.ntmps68
    go_wp2_with fail
    go_ret
    exact ⟨ret_i64 HX.out.symm, Below.refl _ _⟩
  · go_enter Tryz.func68, Tryz.ntmps68
    go_wp2_with fail
    go_loopw [1, 5] (fun l i wr => ∃ (k : Nat) (x : Int), k ≤ ts.length ∧ i = .int .i64 k ∧ l = .int .i64 x ∧ 0 ≤ x ∧ x ≤ 1048576 ∧ Hid (x = left - (ts.length + Tm.bulks (ts.take k) : Nat)) ∧ Below w.heap.size w wr) (fun _ i _ => ts.length - (intOf i).toNat)
    case atStart => exact ⟨0, _, Nat.zero_le _, rfl, rfl, by omega, by omega, by simp [Hid, Tm.bulks], Below.refl _ _⟩
    case round =>
      obtain ⟨k, x, hk, rfl, rfl, hx0, hx1, HX, hb⟩ := hrel
      by_cases hlt : k < ts.length
      · have hne : ts ≠ [] := by intro e; subst e; simp at hlt
        obtain ⟨b, off, rfl, hS, hbl, hrr⟩ := Tm.sd_get hr hne
        obtain ⟨c0, c1, q0, q1, q2⟩ := hrr k hlt
        have q0' := (hb.cell (p := ⟨b, off + k * 2, none⟩) hbl).trans q0
        have q1' := (hb.cell (p := ⟨b, off + k * 2 + 1, none⟩) hbl).trans q1
        have q2' := Tm.at_keep (Keeps.all hb) q2
        have hmem := h ts[k] (List.getElem_mem hlt)
        have hstep := hid (Tm.bulks_take ts k hlt)
        have hstle := hid (Tm.bulks_le ts (k + 1))
        clear q0 q1 q2 hr hrr
        go_wp2_with fail
        refine (hmem _ _ _ _ _ q2' hx0 hx1).mono ?_
        rintro e w' ⟨rfl, hb'⟩
        by_cases hl2 : x < ts[k].bulk
        · have HZ : Hid (after (ts.length + Tm.bulks ts) left = -1) := after_neg (by have := HX.out; have := hstep.out; have := hstle.out; omega)
          rw [after_neg hl2]
          go_wp2_with fail
          go_ret
          exact ⟨ret_i64 HZ.out.symm, hb.trans (hb'.mono hb.size)⟩
        · have hge : (ts[k].bulk : Int) ≤ x := by omega
          have HZ : Hid (x - (ts[k].bulk : Nat) = left - (ts.length + Tm.bulks (ts.take (k + 1)) : Nat)) := by
            have := HX.out; have := hstep.out; show (_ : Int) = _; omega
          rw [after_pos hge]
          go_wp2_with fail
          go_roundw
          case rel => exact ⟨k + 1, _, by omega, by go_num, rfl, by omega, by omega, HZ, hb.trans (hb'.mono hb.size)⟩
          case measure => simp [intOf]; omega
      · obtain rfl : k = ts.length := by omega
        have HY : Hid (x = after (ts.length + Tm.bulks ts) left) := by
          have h := HX.out
          rw [List.take_length] at h
          rw [after_pos (by omega)]; exact h
        go_wp2_with fail
        go_ret
        exact ⟨ret_i64 HY.out, hb⟩

theorem szTerm_any (t : Tm) : SzTerm t := Tm.ind (fun n ts h => szTerm_of n ts (szTermS_of ts h)) t
theorem szTermS_any (ts : List Tm) : SzTermS ts := szTermS_of ts fun t _ => szTerm_any t
end Go.Proofs.YtooocakkjdhfiaaGreatDoor
