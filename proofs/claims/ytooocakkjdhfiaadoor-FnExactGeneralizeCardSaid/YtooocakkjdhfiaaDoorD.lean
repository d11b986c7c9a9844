/- Data as it lies in cells of memory: what a value reads as, which blocks it owns, and what keeps it. -/
import Derived.WalkKit
import Derived.ProofKit
import Derived.Deep.Quiet
namespace Go.Proofs.YtooocakkjdhfiaaDoor
set_option maxRecDepth 100000
open Go.RowKit

theorem hid {p : Prop} (h : p) : Hid p := h

/-- a bound of lengths, behind a name -/
def big : Nat := 9223372036854775807

/-- data: a string, a number, a bool, a slice of so many elements with all their cells in a row -/
inductive D where
  | str (s : ByteArray)
  | num (n : Int)
  | bit (b : Bool)
  | sl (n : Nat) (cs : List D)

mutual
/-- the value v reads as the datum; every block that is met lies in S -/
def D.rd (S : Nat → Prop) (w : World) : Value → D → Prop
  | v, .str s => v = .string s ∧ s.size ≤ maxLen
  | v, .num n => v = .int .i64 n ∧ -9223372036854775808 ≤ n ∧ n ≤ 9223372036854775807
  | v, .bit b => v = .bool b
  | v, .sl n cs => ∃ a cap, v = .slice a n cap ∧ n ≤ big ∧ n ≤ cap ∧ (n ≠ 0 → cs ≠ []) ∧ (cs ≠ [] → ∃ b off, a = some ⟨b, off, none⟩ ∧ S b ∧ b < w.heap.size ∧ D.rds S w b off cs)
def D.rds (S : Nat → Prop) (w : World) (b : Nat) : Nat → List D → Prop
  | _, [] => True
  | off, d :: ds => (∃ v, w.cell? ⟨b, off, none⟩ = some v ∧ D.rd S w v d) ∧ D.rds S w b (off + 1) ds
end

/-- by induction over data -/
theorem D.ind {P : D → Prop} (hs : ∀ s, P (.str s)) (hn : ∀ n, P (.num n)) (hb : ∀ b, P (.bit b)) (h : ∀ n cs, (∀ c ∈ cs, P c) → P (.sl n cs)) : ∀ d, P d
  | .str s => hs s
  | .num n => hn n
  | .bit b => hb b
  | .sl n cs => h n cs (go cs)
where
  go : ∀ cs : List D, ∀ c ∈ cs, P c
    | [], _, hm => by cases hm
    | t :: ts, c, hm => by
      cases hm with
      | head => exact D.ind hs hn hb h t
      | tail _ hm => exact go ts c hm

theorem D.rds_iff {S : Nat → Prop} {w : World} {b : Nat} : ∀ (ds : List D) (off : Nat), D.rds S w b off ds ↔ ∀ i (h : i < ds.length), ∃ v, w.cell? ⟨b, off + i, none⟩ = some v ∧ D.rd S w v ds[i]
  | [], off => by rw [D.rds]; simp
  | d :: ds, off => by
    rw [D.rds, D.rds_iff ds (off + 1)]
    constructor
    · rintro ⟨h0, h1⟩ i hi
      cases i with
      | zero => simpa using h0
      | succ i =>
        obtain ⟨v, q0, q1⟩ := h1 i (by simpa using hi)
        exact ⟨v, by rw [← q0]; congr 2; omega, by simpa using q1⟩
    · intro h
      refine ⟨h 0 (by simp), fun i hi => ?_⟩
      obtain ⟨v, q0, q1⟩ := h (i + 1) (by simpa using hi)
      exact ⟨v, by rw [← q0]; congr 2; omega, by simpa using q1⟩

theorem D.rds_get {S : Nat → Prop} {w : World} {b off : Nat} {ds : List D} (h : D.rds S w b off ds) {i : Nat} {d : D} (hi : ds[i]? = some d) : ∃ v, w.cell? ⟨b, off + i, none⟩ = some v ∧ D.rd S w v d := by
  obtain ⟨hl, he⟩ := List.getElem?_eq_some_iff.1 hi
  obtain ⟨v, q0, q1⟩ := (D.rds_iff ds off).1 h i hl
  exact ⟨v, q0, he ▸ q1⟩

/-- what w' keeps of w: the blocks of S -/
structure Keeps (S : Nat → Prop) (w w' : World) : Prop where
  size : w.heap.size ≤ w'.heap.size
  block : ∀ b, S b → b < w.heap.size → w'.heap[b]? = w.heap[b]?

theorem Keeps.refl (S : Nat → Prop) (w : World) : Keeps S w w := ⟨Nat.le_refl _, fun _ _ _ => rfl⟩
theorem Keeps.trans {S : Nat → Prop} {a b c : World} (h : Keeps S a b) (k : Keeps S b c) : Keeps S a c :=
  ⟨Nat.le_trans h.size k.size, fun x hs hx => (k.block x hs (Nat.lt_of_lt_of_le hx h.size)).trans (h.block x hs hx)⟩
theorem Keeps.mono {S S' : Nat → Prop} {w w' : World} (h : Keeps S' w w') (hs : ∀ b, S b → S' b) : Keeps S w w' := ⟨h.size, fun b q => h.block b (hs b q)⟩
theorem Keeps.of_below {S : Nat → Prop} {B : Nat} {w w' : World} (h : Below B w w') (hs : ∀ b, S b → b < w.heap.size → b < B) : Keeps S w w' := ⟨h.size, fun b q hb => h.block b (hs b q hb)⟩
theorem Keeps.all {S : Nat → Prop} {w w' : World} (h : Below w.heap.size w w') : Keeps S w w' := Keeps.of_below h fun _ _ h => h
theorem Keeps.cell {S : Nat → Prop} {w w' : World} (h : Keeps S w w') {b o : Nat} (hs : S b) (hb : b < w.heap.size) : w'.cell? ⟨b, o, none⟩ = w.cell? ⟨b, o, none⟩ := World.cell?_of_block (w := w) (h.block b hs hb)
theorem Keeps.alloc {S : Nat → Prop} {w w' : World} (h : Keeps S w w') (o : Obj) : Keeps S w (w'.alloc o) :=
  h.trans ⟨by simp, fun b _ hb => Below.heap_alloc _ _ _ hb⟩
theorem Keeps.drew {S : Nat → Prop} {w w' : World} (h : Keeps S w w') : Keeps S w w'.drew := ⟨h.size, h.block⟩
theorem Keeps.drewN {S : Nat → Prop} {w w' : World} {n : Nat} (h : Keeps S w w') : Keeps S w (w'.drewN n) := ⟨h.size, h.block⟩
theorem Keeps.setCell {S : Nat → Prop} {w w' : World} (h : Keeps S w w') {p : Addr} (hp : S p.block → p.block < w.heap.size → False) (u : Value) : Keeps S w (w'.setCell p u) := by
  refine ⟨by simpa [World.setCell] using h.size, fun b hs hb => ?_⟩
  rw [Below.heap_setCell _ _ _ _ (fun e => hp (e ▸ hs) (e ▸ hb))]
  exact h.block b hs hb

theorem Keeps.set_lt {S : Nat → Prop} {w w' : World} (h : Keeps S w w') {n : Nat} (hn : ∀ x, S x → n ≤ x) {p : Addr} (hp : p.block < n) (u : Value) : Keeps S w (w'.setCell p u) :=
  h.setCell (fun q _ => by have := hn _ q; omega) u

theorem D.rd_mono {S S' : Nat → Prop} {w : World} (hs : ∀ b, S b → S' b) : ∀ (d : D) (v : Value), D.rd S w v d → D.rd S' w v d := by
  refine D.ind (fun s v h => by rw [D.rd] at h ⊢; exact h) (fun n v h => by rw [D.rd] at h ⊢; exact h) (fun b v h => by rw [D.rd] at h ⊢; exact h) (fun n cs ih v h => ?_)
  rw [D.rd] at h ⊢
  obtain ⟨a, cap, h0, h1, h2, h3, h4⟩ := h
  refine ⟨a, cap, h0, h1, h2, h3, fun hne => ?_⟩
  obtain ⟨b, off, q0, q1, q2, q3⟩ := h4 hne
  refine ⟨b, off, q0, hs b q1, q2, (D.rds_iff _ _).2 fun i hi => ?_⟩
  obtain ⟨v, r0, r1⟩ := (D.rds_iff _ _).1 q3 i hi
  exact ⟨v, r0, ih _ (List.getElem_mem hi) _ r1⟩

theorem D.rd_keep {S : Nat → Prop} {w w' : World} (hk : Keeps S w w') : ∀ (d : D) (v : Value), D.rd S w v d → D.rd S w' v d := by
  refine D.ind (fun s v h => by rw [D.rd] at h ⊢; exact h) (fun n v h => by rw [D.rd] at h ⊢; exact h) (fun b v h => by rw [D.rd] at h ⊢; exact h) (fun n cs ih v h => ?_)
  rw [D.rd] at h ⊢
  obtain ⟨a, cap, h0, h1, h2, h3, h4⟩ := h
  refine ⟨a, cap, h0, h1, h2, h3, fun hne => ?_⟩
  obtain ⟨b, off, q0, q1, q2, q3⟩ := h4 hne
  refine ⟨b, off, q0, q1, Nat.lt_of_lt_of_le q2 hk.size, (D.rds_iff _ _).2 fun i hi => ?_⟩
  obtain ⟨v, r0, r1⟩ := (D.rds_iff _ _).1 q3 i hi
  exact ⟨v, (hk.cell q1 q2).trans r0, ih _ (List.getElem_mem hi) _ r1⟩

theorem D.rd_below {S : Nat → Prop} {w w' : World} (h : Below w.heap.size w w') {d : D} {v : Value} (hr : D.rd S w v d) : D.rd S w' v d := D.rd_keep (Keeps.all h) d v hr

mutual
/-- the value v reads as the datum, and every slice in it with an element has a block of its own: those blocks are F, each met once, none frozen -/
def D.own (w : World) : Value → D → List Nat → Prop
  | v, .str s, F => v = .string s ∧ s.size ≤ maxLen ∧ F = []
  | v, .num n, F => v = .int .i64 n ∧ -9223372036854775808 ≤ n ∧ n ≤ 9223372036854775807 ∧ F = []
  | v, .bit b, F => v = .bool b ∧ F = []
  | v, .sl n cs, F => ∃ a cap, v = .slice a n cap ∧ n ≤ big ∧ n ≤ cap ∧ (n ≠ 0 → cs ≠ []) ∧ ((cs = [] ∧ F = []) ∨ (cs ≠ [] ∧ ∃ b off F' cur e, a = some ⟨b, off, none⟩ ∧ w.heap[b]? = some (.cells cur e (0, 0)) ∧ F = b :: F' ∧ b ∉ F' ∧ D.owns w b off cs F'))
def D.owns (w : World) (b : Nat) : Nat → List D → List Nat → Prop
  | _, [], F => F = []
  | off, d :: ds, F => ∃ F1 F2, F = F1 ++ F2 ∧ (∀ x ∈ F1, x ∉ F2) ∧ (∃ v, w.cell? ⟨b, off, none⟩ = some v ∧ D.own w v d F1) ∧ D.owns w b (off + 1) ds F2
end

theorem lt_of_heap {w : World} {b : Nat} {o : Obj} (h : w.heap[b]? = some o) : b < w.heap.size := (Array.getElem?_eq_some_iff.1 h).1

theorem D.own_rd {w : World} : ∀ (d : D) (v : Value) (F : List Nat), D.own w v d F → D.rd (· ∈ F) w v d := by
  refine D.ind (fun s v F h => by rw [D.own] at h; rw [D.rd]; exact ⟨h.1, h.2.1⟩) (fun n v F h => by rw [D.own] at h; rw [D.rd]; exact ⟨h.1, h.2.1, h.2.2.1⟩) (fun b v F h => by rw [D.own] at h; rw [D.rd]; exact h.1) (fun n cs ih v F h => ?_)
  rw [D.own] at h; rw [D.rd]
  obtain ⟨a, cap, h0, h1, h2, h3, h4⟩ := h
  refine ⟨a, cap, h0, h1, h2, h3, fun hne => ?_⟩
  rcases h4 with ⟨h4, _⟩ | ⟨_, b, off, F', cur, e, q0, q1, rfl, q3, q4⟩
  · exact absurd h4 hne
  refine ⟨b, off, q0, by simp, lt_of_heap q1, ?_⟩
  have key : ∀ (cs : List D) (off : Nat) (F'' : List Nat), (∀ c ∈ cs, ∀ v F, D.own w v c F → D.rd (· ∈ F) w v c) → (∀ x ∈ F'', x ∈ b :: F') → D.owns w b off cs F'' → D.rds (· ∈ b :: F') w b off cs := by
    intro cs
    induction cs with
    | nil => intro _ _ _ _ _; rw [D.rds]; trivial
    | cons c cs ihc =>
      intro off F'' ih hsub ho
      rw [D.owns] at ho; rw [D.rds]
      obtain ⟨F1, F2, rfl, hd, ⟨v, r0, r1⟩, r2⟩ := ho
      exact ⟨⟨v, r0, D.rd_mono (fun x hx => hsub x (by simp [show x ∈ F1 from hx])) _ _ (ih c (by simp) v F1 r1)⟩,
        ihc _ F2 (fun c hc => ih c (by simp [hc])) (fun x hx => hsub x (by simp [hx])) r2⟩
  exact key cs off F' ih (fun x hx => by simp [hx]) q4

theorem D.own_keep {w w' : World} : ∀ (d : D) (v : Value) (F : List Nat), Keeps (· ∈ F) w w' → D.own w v d F → D.own w' v d F := by
  refine D.ind (fun s v F _ h => by rw [D.own] at h ⊢; exact h) (fun n v F _ h => by rw [D.own] at h ⊢; exact h) (fun b v F _ h => by rw [D.own] at h ⊢; exact h) (fun n cs ih v F hk h => ?_)
  rw [D.own] at h ⊢
  obtain ⟨a, cap, h0, h1, h2, h3, h4⟩ := h
  refine ⟨a, cap, h0, h1, h2, h3, ?_⟩
  rcases h4 with h4 | ⟨hne, b, off, F', cur, e, q0, q1, rfl, q3, q4⟩
  · exact Or.inl h4
  refine Or.inr ⟨hne, b, off, F', cur, e, q0, (hk.block b (by simp) (lt_of_heap q1)).trans q1, rfl, q3, ?_⟩
  have key : ∀ (cs : List D) (off : Nat) (F'' : List Nat), (∀ c ∈ cs, ∀ v F, Keeps (· ∈ F) w w' → D.own w v c F → D.own w' v c F) → (∀ x ∈ F'', x ∈ b :: F') → D.owns w b off cs F'' → D.owns w' b off cs F'' := by
    intro cs
    induction cs with
    | nil => intro _ _ _ _ ho; rw [D.owns] at ho ⊢; exact ho
    | cons c cs ihc =>
      intro off F'' ih hsub ho
      rw [D.owns] at ho ⊢
      obtain ⟨F1, F2, rfl, hd, ⟨v, r0, r1⟩, r2⟩ := ho
      exact ⟨F1, F2, rfl, hd, ⟨v, (hk.cell (by simp) (lt_of_heap q1)).trans r0, ih c (by simp) v F1 (hk.mono fun x hx => hsub x (by simp [show x ∈ F1 from hx])) r1⟩,
        ihc _ F2 (fun c hc => ih c (by simp [hc])) (fun x hx => hsub x (by simp [hx])) r2⟩
  exact key cs off F' ih (fun x hx => by simp [hx]) q4

theorem D.own_lt {w : World} : ∀ (d : D) (v : Value) (F : List Nat), D.own w v d F → ∀ x ∈ F, x < w.heap.size := by
  refine D.ind (fun s v F h => by rw [D.own] at h; rw [h.2.2]; simp) (fun n v F h => by rw [D.own] at h; rw [h.2.2.2]; simp) (fun b v F h => by rw [D.own] at h; rw [h.2]; simp) (fun n cs ih v F h => ?_)
  rw [D.own] at h
  obtain ⟨a, cap, h0, h1, h2, h3, h4⟩ := h
  rcases h4 with ⟨_, rfl⟩ | ⟨hne, b, off, F', cur, e, q0, q1, rfl, q3, q4⟩
  · simp
  have key : ∀ (cs : List D) (off : Nat) (F'' : List Nat), (∀ c ∈ cs, ∀ v F, D.own w v c F → ∀ x ∈ F, x < w.heap.size) → D.owns w b off cs F'' → ∀ x ∈ F'', x < w.heap.size := by
    intro cs
    induction cs with
    | nil => intro _ _ _ ho; rw [D.owns] at ho; subst ho; simp
    | cons c cs ihc =>
      intro off F'' ih ho
      rw [D.owns] at ho
      obtain ⟨F1, F2, rfl, hd, ⟨v, r0, r1⟩, r2⟩ := ho
      intro x hx
      rcases List.mem_append.1 hx with hx | hx
      · exact ih c (by simp) v F1 r1 x hx
      · exact ihc _ F2 (fun c hc => ih c (by simp [hc])) r2 x hx
  intro x hx
  rcases List.mem_cons.1 hx with rfl | hx
  · exact lt_of_heap q1
  · exact key cs off F' ih q4 x hx

theorem D.owns_append {w : World} {b : Nat} : ∀ (cs : List D) (off : Nat) (ds : List D) (F G : List Nat), D.owns w b off cs F → D.owns w b (off + cs.length) ds G → (∀ x ∈ F, x ∉ G) → D.owns w b off (cs ++ ds) (F ++ G)
  | [], off, ds, F, G, h, k, _ => by rw [D.owns] at h; subst h; simpa using k
  | c :: cs, off, ds, F, G, h, k, hd => by
    rw [D.owns] at h
    obtain ⟨F1, F2, rfl, hd', hv, hr⟩ := h
    rw [List.cons_append, D.owns]
    refine ⟨F1, F2 ++ G, by simp, fun x hx => ?_, hv, D.owns_append cs (off + 1) ds F2 G hr (by rw [show off + 1 + cs.length = off + (c :: cs).length by simp; omega]; exact k) (fun x hx => hd x (by simp [hx]))⟩
    rw [List.mem_append]; rintro (q | q)
    · exact hd' x hx q
    · exact hd x (by simp [hx]) q

theorem D.owns_keep {w w' : World} {b : Nat} : ∀ (cs : List D) (off : Nat) (F : List Nat), (∀ i, i < cs.length → w'.cell? ⟨b, off + i, none⟩ = w.cell? ⟨b, off + i, none⟩) → Keeps (· ∈ F) w w' → D.owns w b off cs F → D.owns w' b off cs F
  | [], off, F, _, _, h => by rw [D.owns] at h ⊢; exact h
  | c :: cs, off, F, hc, hk, h => by
    rw [D.owns] at h ⊢
    obtain ⟨F1, F2, rfl, hd, ⟨v, q0, q1⟩, hr⟩ := h
    refine ⟨F1, F2, rfl, hd, ⟨v, (hc 0 (by simp)).trans q0, D.own_keep _ _ _ (hk.mono fun x hx => by simp [show x ∈ F1 from hx]) q1⟩, D.owns_keep cs (off + 1) F2 (fun i hi => ?_) (hk.mono fun x hx => by simp [show x ∈ F2 from hx]) hr⟩
    have := hc (i + 1) (by simpa using hi)
    rw [show off + (i + 1) = off + 1 + i by omega] at this
    exact this

/-- block b is a row of m cells of type e, none frozen, whose first cells own the data cs with the blocks F -/
def Filled (w : World) (b : Nat) (e : TypeId) (m : Nat) (cs : List D) (F : List Nat) : Prop :=
  ∃ cur, w.heap[b]? = some (.cells cur e (0, 0)) ∧ cur.size = m ∧ D.owns w b 0 cs F ∧ b ∉ F

theorem Filled.cell {w : World} {b : Nat} {e : TypeId} {m : Nat} {cs : List D} {F : List Nat} (h : Filled w b e m cs F) {p : Nat} (hp : p < m) : ∃ x, w.cell? ⟨b, p, none⟩ = some x := by
  obtain ⟨cur, h0, h1, _⟩ := h
  exact ⟨cur[p]'(by omega), by simp [World.cell?, h0]⟩
theorem Filled.free {w : World} {b : Nat} {e : TypeId} {m : Nat} {cs : List D} {F : List Nat} (h : Filled w b e m cs F) (p : Nat) : w.frozen? ⟨b, p, none⟩ = false := by
  obtain ⟨cur, h0, h1, _⟩ := h
  simp [World.frozen?, h0]
theorem Filled.lt {w : World} {b : Nat} {e : TypeId} {m : Nat} {cs : List D} {F : List Nat} (h : Filled w b e m cs F) : b < w.heap.size := by
  obtain ⟨cur, h0, h1, _⟩ := h
  exact lt_of_heap h0
theorem D.owns_lt {w : World} {b off : Nat} {cs : List D} {F : List Nat} (h : D.owns w b off cs F) : ∀ x ∈ F, x < w.heap.size := by
  induction cs generalizing off F with
  | nil => rw [D.owns] at h; subst h; simp
  | cons c cs ih =>
    rw [D.owns] at h
    obtain ⟨F1, F2, rfl, hd, ⟨v, r0, r1⟩, r2⟩ := h
    intro x hx
    rcases List.mem_append.1 hx with hx | hx
    · exact D.own_lt _ _ _ r1 x hx
    · exact ih r2 x hx
theorem Filled.ltF {w : World} {b : Nat} {e : TypeId} {m : Nat} {cs : List D} {F : List Nat} (h : Filled w b e m cs F) : ∀ x ∈ F, x < w.heap.size := by
  obtain ⟨cur, h0, h1, h2, h3⟩ := h
  exact D.owns_lt h2
theorem Filled.keep {w w' : World} {b : Nat} {e : TypeId} {m : Nat} {cs : List D} {F : List Nat} (hk : Keeps (fun x => x = b ∨ x ∈ F) w w') (h : Filled w b e m cs F) : Filled w' b e m cs F := by
  have hb := h.lt
  obtain ⟨cur, h0, h1, h2, h3⟩ := h
  exact ⟨cur, (hk.block b (.inl rfl) hb).trans h0, h1, D.owns_keep _ _ _ (fun i _ => hk.cell (.inl rfl) hb) (hk.mono fun x hx => .inr hx) h2, h3⟩
theorem heap_setCell {w : World} {b : Nat} {cur : Array Value} {e : TypeId} {p : Nat} (h : w.heap[b]? = some (.cells cur e (0, 0))) (v : Value) :
    (w.setCell ⟨b, p, none⟩ v).heap[b]? = some (.cells (cur.setIfInBounds p v) e (0, 0)) := by
  simp [World.setCell, Array.getElem?_modify, h]
theorem Filled.set {w : World} {b : Nat} {e : TypeId} {m p : Nat} {cs : List D} {F G : List Nat} {v : Value} {d : D} (h : Filled w b e m cs F) (hp : p = cs.length) (hlt : p < m) (ho : D.own w v d G) (hG : b ∉ G) (hd : ∀ x ∈ F, x ∉ G) :
    Filled (w.setCell ⟨b, p, none⟩ v) b e m (cs ++ [d]) (F ++ G) := by
  obtain ⟨cur, h0, h1, h2, h3⟩ := h
  subst hp
  have hk : ∀ (L : List Nat), b ∉ L → Keeps (· ∈ L) w (w.setCell ⟨b, cs.length, none⟩ v) := fun L hL => (Keeps.refl _ _).setCell (fun q _ => hL q) _
  refine ⟨_, heap_setCell h0 v, by simpa using h1, ?_, by simp [h3, hG]⟩
  refine D.owns_append cs 0 [d] F G (D.owns_keep _ _ _ (fun i hi => ?_) (hk F h3) h2) ?_ hd
  · exact World.cell?_setCell_other _ _ _ _ (by intro e; injection e with _ e; omega)
  · rw [D.owns]
    refine ⟨G, [], by simp, by simp, ⟨v, ?_, D.own_keep _ _ _ (hk G hG) ho⟩, by rw [D.owns]⟩
    rw [Nat.zero_add]
    refine World.cell?_setCell_same (u := cur[cs.length]'(by omega)) _ _ _ ?_
    simp [World.cell?, h0]

/-- a made row of cells -/
theorem Filled.made (w : World) (cur : Array Value) (e : TypeId) : Filled (w.alloc (.cells cur e)) w.heap.size e cur.size [] [] :=
  ⟨cur, by show (w.heap.push _)[w.heap.size]? = _; simp, rfl, by rw [D.owns], by simp⟩

/-- a row filled to its end is a slice's own -/
theorem Filled.own {w : World} {b : Nat} {e : TypeId} {m n : Nat} {cs : List D} {F : List Nat} (h : Filled w b e m cs F) (hne : cs ≠ []) {cap : Nat} (hn : n ≤ big) (hc : n ≤ cap) : D.own w (.slice (some ⟨b, 0, none⟩) n cap) (.sl n cs) (b :: F) := by
  obtain ⟨cur, h0, h1, h2, h3⟩ := h
  rw [D.own]
  exact ⟨_, _, rfl, hn, hc, fun _ => hne, Or.inr ⟨hne, b, 0, F, cur, e, rfl, h0, rfl, h3, h2⟩⟩
theorem D.own_nil {w : World} (a : Option Addr) (cap : Nat) : D.own w (.slice a 0 cap) (.sl 0 []) [] := by
  rw [D.own]; exact ⟨_, _, rfl, Nat.zero_le _, Nat.zero_le _, fun h => absurd rfl h, Or.inl ⟨rfl, rfl⟩⟩
theorem D.own_str {w : World} {s : ByteArray} (h : s.size ≤ maxLen) : D.own w (.string s) (.str s) [] := by rw [D.own]; exact ⟨rfl, h, rfl⟩
theorem D.rd_str {S : Nat → Prop} {w : World} {s : ByteArray} (h : s.size ≤ maxLen) : D.rd S w (.string s) (.str s) := by rw [D.rd]; exact ⟨rfl, h⟩

/-- behind a call that changed no old block: cells and marks of old blocks read as before -/
theorem bcell {W w1 : World} (hb : Below W.heap.size W w1) : (∀ b o, b < W.heap.size → w1.cell? ⟨b, o, none⟩ = W.cell? ⟨b, o, none⟩) ∧ (∀ b o, b < W.heap.size → w1.frozen? ⟨b, o, none⟩ = W.frozen? ⟨b, o, none⟩) :=
  ⟨fun b o h => hb.cell (p := ⟨b, o, none⟩) h, fun b o h => hb.frozen (p := ⟨b, o, none⟩) h⟩

/-- make([]E, n) -/
theorem run_mk {P : Program} {t e : TypeId} {z : Value} {size bytes : Nat} (ht : P.underlying t = some (.slice e)) (hinfo : (P.info? e).map (fun i => (i.zero, i.size, i.bytes)) = some (some z, size, bytes)) (n : Nat) (hb : bytes * n ≤ 281474976710656) (hn : n ≤ big) (w : World) :
    (Instr.makeSlice t (.int .i64 n) (.int .i64 n)).run P w = .ok (.slice (some ⟨w.heap.size, 0, none⟩) n n) (w.alloc (.cells (madeCells z.cells (n * size)) e)) := by
  obtain ⟨i, hi, hz⟩ : ∃ i, P.info? e = some i ∧ (i.zero, i.size, i.bytes) = (some z, size, bytes) := by
    cases h : P.info? e with
    | none => rw [h] at hinfo; cases hinfo
    | some i => rw [h] at hinfo; exact ⟨i, rfl, by simpa using hinfo⟩
  injection hz with hz0 hz1; injection hz1 with hz1 hz2
  subst hz1 hz2
  unfold big at hn
  have := run_make (P := P) w t e i z ht hi hz0 .i64 .i64 (n : Int) (n : Int) (by omega) (by omega) (by rw [← Int.natCast_mul]; omega) (by omega)
  simpa using this

theorem ret_bool {a b : Bool} (h : a = b) : Ending.returned (.bool a) = .returned (.bool b) := by rw [h]
theorem ret_i64 {a b : Int} (h : a = b) : Ending.returned (.int .i64 a) = .returned (.int .i64 b) := by rw [h]

theorem toList_ne {a b : ByteArray} (h : a ≠ b) : (a.toList == b.toList) = false := by
  rw [beq_eq_false_iff_ne]
  intro e
  rw [ByteArray.toList_eq, ByteArray.toList_eq] at e
  exact h (by cases a; cases b; congr 1; exact Array.toList_inj.1 e)
theorem toList_beq (a b : ByteArray) : (a.toList == b.toList) = decide (a = b) := by
  by_cases h : a = b
  · subst h; simp
  · rw [toList_ne h]; simp [h]

theorem box1 (w : World) (c0 : Array Value) (t0 : TypeId) (i : Nat) : (w.alloc (.cells c0 t0)).cell? ⟨w.heap.size, i, none⟩ = c0[i]? := World.cell?_alloc_new _ _ _ _
theorem box2 (w : World) (c0 c1 : Array Value) (t0 t1 : TypeId) (i : Nat) : ((w.alloc (.cells c0 t0)).alloc (.cells c1 t1)).cell? ⟨w.heap.size, i, none⟩ = c0[i]? ∧ ((w.alloc (.cells c0 t0)).alloc (.cells c1 t1)).cell? ⟨w.heap.size + 1, i, none⟩ = c1[i]? := by
  refine ⟨?_, ?_⟩
  · rw [World.cell?_alloc_old _ _ _ (by simp)]; exact box1 _ _ _ _
  · have := box1 (w.alloc (.cells c0 t0)) c1 t1 i
    rwa [World.size_alloc] at this
theorem box3 (w : World) (c0 c1 c2 : Array Value) (t0 t1 t2 : TypeId) (i : Nat) : (((w.alloc (.cells c0 t0)).alloc (.cells c1 t1)).alloc (.cells c2 t2)).cell? ⟨w.heap.size, i, none⟩ = c0[i]? ∧ (((w.alloc (.cells c0 t0)).alloc (.cells c1 t1)).alloc (.cells c2 t2)).cell? ⟨w.heap.size + 1, i, none⟩ = c1[i]? ∧ (((w.alloc (.cells c0 t0)).alloc (.cells c1 t1)).alloc (.cells c2 t2)).cell? ⟨w.heap.size + 1 + 1, i, none⟩ = c2[i]? := by
  refine ⟨?_, ?_, ?_⟩
  · rw [World.cell?_alloc_old _ _ _ (by simp; omega)]; exact (box2 _ _ _ _ _ _).1
  · rw [World.cell?_alloc_old _ _ _ (by simp)]; exact (box2 _ _ _ _ _ _).2
  · have := box1 ((w.alloc (.cells c0 t0)).alloc (.cells c1 t1)) c2 t2 i
    rwa [World.size_alloc, World.size_alloc] at this

/-- a cell that is there is as it was behind an alloc -/
theorem cell_alloc {w : World} {a : Addr} {v : Value} (h : w.cell? a = some v) (o : Obj) : (w.alloc o).cell? a = some v :=
  (World.cell?_alloc_lt w o a (World.block_lt_of_cell? w a h)).trans h

/-- a box of cells, and what keeps it -/
structure Box (w : World) (b : Nat) (cs : List Value) : Prop where
  lt : b < w.heap.size
  cell : ∀ i (h : i < cs.length), w.cell? ⟨b, i, none⟩ = some cs[i]
theorem Box.new (w : World) (cs : List Value) (t : TypeId) : Box (w.alloc (.cells cs.toArray t)) w.heap.size cs :=
  ⟨by simp, fun i h => by rw [box1]; simp [h]⟩
theorem Box.keep {w w' : World} {b : Nat} {cs : List Value} (h : Box w b cs) (hb : Below w.heap.size w w') : Box w' b cs :=
  ⟨Nat.lt_of_lt_of_le h.lt hb.size, fun i hi => (hb.cell h.lt).trans (h.cell i hi)⟩
theorem Box.alloc {w : World} {b : Nat} {cs : List Value} (h : Box w b cs) (o : Obj) : Box (w.alloc o) b cs :=
  h.keep ((Below.refl _ _).alloc (Nat.le_refl _) o)
theorem Box.c0 {w : World} {b : Nat} {x : Value} {cs : List Value} (h : Box w b (x :: cs)) : w.cell? ⟨b, 0, none⟩ = some x := h.cell 0 (by simp)
theorem Box.c1 {w : World} {b : Nat} {x y : Value} {cs : List Value} (h : Box w b (x :: y :: cs)) : w.cell? ⟨b, 1, none⟩ = some y := h.cell 1 (by simp)
theorem Box.c2 {w : World} {b : Nat} {x y z : Value} {cs : List Value} (h : Box w b (x :: y :: z :: cs)) : w.cell? ⟨b, 2, none⟩ = some z := h.cell 2 (by simp)
end Go.Proofs.YtooocakkjdhfiaaDoor
