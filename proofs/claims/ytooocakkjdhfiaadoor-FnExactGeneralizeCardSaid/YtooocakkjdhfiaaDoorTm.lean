/- Terms: trees of names, as data. -/
import Derived.Test.YtooocakkjdhfiaaDoorD
namespace Go.Proofs.YtooocakkjdhfiaaDoor
set_option maxRecDepth 100000
open Go.RowKit

/-- a tree of names -/
inductive Tm where
  | node (name : ByteArray) (args : List Tm)

def Tm.name : Tm → ByteArray | .node n _ => n
def Tm.args : Tm → List Tm | .node _ ts => ts

theorem Tm.ind {P : Tm → Prop} (h : ∀ n ts, (∀ a ∈ ts, P a) → P (.node n ts)) : ∀ t, P t
  | .node n ts => h n ts (go ts)
where
  go : ∀ ts : List Tm, ∀ a ∈ ts, P a
    | [], _, hm => by cases hm
    | t :: ts, a, hm => by
      cases hm with
      | head => exact Tm.ind h t
      | tail _ hm => exact go ts a hm

mutual
/-- the cells of a term -/
def Tm.cs : Tm → List D
  | .node n ts => [D.str n, D.sl ts.length (Tm.css ts)]
def Tm.css : List Tm → List D
  | [] => []
  | t :: ts => Tm.cs t ++ Tm.css ts
end
/-- the datum of a slice of terms -/
def Tm.sd (ts : List Tm) : D := .sl ts.length (Tm.css ts)

mutual
/-- how many letters and arguments a tree holds -/
def Tm.bulk : Tm → Nat
  | .node n ts => n.size + ts.length + Tm.bulks ts
def Tm.bulks : List Tm → Nat
  | [] => 0
  | t :: ts => Tm.bulk t + Tm.bulks ts
end

theorem Tm.bulks_le : ∀ (ts : List Tm) (k : Nat), Tm.bulks (ts.take k) ≤ Tm.bulks ts
  | [], k => by simp
  | t :: ts, 0 => by simp [Tm.bulks]
  | t :: ts, k + 1 => by
    have := Tm.bulks_le ts k
    simp only [List.take_succ_cons, Tm.bulks]; omega
theorem Tm.bulks_take : ∀ (ts : List Tm) (k : Nat) (hk : k < ts.length), Tm.bulks (ts.take (k + 1)) = Tm.bulks (ts.take k) + ts[k].bulk
  | [], k, hk => absurd hk (by simp)
  | t :: ts, 0, _ => by simp [Tm.bulks]
  | t :: ts, k + 1, hk => by
    have := Tm.bulks_take ts k (by simpa using hk)
    simp only [List.take_succ_cons, Tm.bulks, this, List.getElem_cons_succ]; omega
theorem Tm.bulk_mem {ts : List Tm} {t : Tm} (h : t ∈ ts) : t.bulk ≤ Tm.bulks ts := by
  induction ts with
  | nil => cases h
  | cons a ts ih =>
    rw [Tm.bulks]
    rcases List.mem_cons.1 h with rfl | h
    · omega
    · have := ih h; omega

theorem Tm.css_length : ∀ ts : List Tm, (Tm.css ts).length = ts.length * 2
  | [] => by simp [Tm.css]
  | .node n us :: ts => by simp [Tm.css, Tm.cs, Tm.css_length ts]; omega
theorem Tm.css_ne {ts : List Tm} (h : ts ≠ []) : Tm.css ts ≠ [] := by
  intro e
  have := Tm.css_length ts
  rw [e] at this
  exact h (List.length_eq_zero_iff.1 (by simp at this; omega))
theorem Tm.css_get : ∀ (ts : List Tm) (k : Nat) (hk : k < ts.length), (Tm.css ts)[k * 2]? = some (.str ts[k].name) ∧ (Tm.css ts)[k * 2 + 1]? = some (Tm.sd ts[k].args)
  | [], k, hk => absurd hk (by simp)
  | .node n us :: ts, 0, _ => by simp [Tm.css, Tm.cs, Tm.name, Tm.args, Tm.sd]
  | .node n us :: ts, k + 1, hk => by
    have := Tm.css_get ts k (by simpa using hk)
    rw [show (k + 1) * 2 = k * 2 + 2 by omega]
    simpa [Tm.css, Tm.cs] using this
theorem Tm.css_take_succ (ts : List Tm) (k : Nat) (hk : k < ts.length) : Tm.css (ts.take (k + 1)) = Tm.css (ts.take k) ++ [.str ts[k].name, Tm.sd ts[k].args] := by
  induction ts generalizing k with
  | nil => exact absurd hk (by simp)
  | cons t ts ih =>
    cases k with
    | zero => cases t; simp [Tm.css, Tm.cs, Tm.name, Tm.args, Tm.sd]
    | succ k => simp [Tm.css, ih k (by simpa using hk)]

/-- two cells read as a term -/
def Tm.at (S : Nat → Prop) (w : World) (c0 c1 : Value) (t : Tm) : Prop := D.rd S w c0 (.str t.name) ∧ D.rd S w c1 (Tm.sd t.args)

theorem Tm.at_keep {S : Nat → Prop} {w w' : World} {c0 c1 : Value} {t : Tm} (hk : Keeps S w w') (h : Tm.at S w c0 c1 t) : Tm.at S w' c0 c1 t :=
  ⟨D.rd_keep hk _ _ h.1, D.rd_keep hk _ _ h.2⟩
theorem Tm.at_mono {S S' : Nat → Prop} {w : World} {c0 c1 : Value} {t : Tm} (hs : ∀ b, S b → S' b) (h : Tm.at S w c0 c1 t) : Tm.at S' w c0 c1 t :=
  ⟨D.rd_mono hs _ _ h.1, D.rd_mono hs _ _ h.2⟩

theorem Tm.at_form {S : Nat → Prop} {w : World} {c0 c1 : Value} {t : Tm} (h : Tm.at S w c0 c1 t) : c0 = .string t.name ∧ t.name.size ≤ maxLen ∧ ∃ a cap, c1 = .slice a t.args.length cap := by
  obtain ⟨h0, h1⟩ := h
  rw [D.rd] at h0
  rw [Tm.sd, D.rd] at h1
  obtain ⟨a, cap, e, _⟩ := h1
  exact ⟨h0.1, h0.2, a, cap, e⟩
theorem Tm.sd_form {S : Nat → Prop} {w : World} {v : Value} {ts : List Tm} (h : D.rd S w v (Tm.sd ts)) : ∃ a cap, v = .slice a ts.length cap ∧ ts.length ≤ big ∧ ts.length ≤ cap := by
  rw [Tm.sd, D.rd] at h
  obtain ⟨a, cap, e, h1, h2, _⟩ := h
  exact ⟨a, cap, e, h1, h2⟩
theorem Tm.sd_get {S : Nat → Prop} {w : World} {a : Option Addr} {n cap : Nat} {ts : List Tm} (h : D.rd S w (.slice a n cap) (Tm.sd ts)) (hne : ts ≠ []) : ∃ b off, a = some ⟨b, off, none⟩ ∧ S b ∧ b < w.heap.size ∧
    ∀ k (hk : k < ts.length), ∃ c0 c1, w.cell? ⟨b, off + k * 2, none⟩ = some c0 ∧ w.cell? ⟨b, off + k * 2 + 1, none⟩ = some c1 ∧ Tm.at S w c0 c1 ts[k] := by
  rw [Tm.sd, D.rd] at h
  obtain ⟨a', cap', e, h1, h2, h3, h4⟩ := h
  injection e with e0 e1 e2
  subst e0
  obtain ⟨b, off, q0, q1, q2, q3⟩ := h4 (Tm.css_ne hne)
  refine ⟨b, off, q0, q1, q2, fun k hk => ?_⟩
  obtain ⟨g0, g1⟩ := Tm.css_get ts k hk
  obtain ⟨c0, r0, r1⟩ := D.rds_get q3 g0
  obtain ⟨c1, r2, r3⟩ := D.rds_get q3 g1
  exact ⟨c0, c1, r0, by rw [← r2]; congr 2, r1, r3⟩

/-- two cells own a term -/
def Tm.own (w : World) (c0 c1 : Value) (t : Tm) (F : List Nat) : Prop := c0 = .string t.name ∧ t.name.size ≤ maxLen ∧ D.own w c1 (Tm.sd t.args) F
theorem Tm.own_at {w : World} {c0 c1 : Value} {t : Tm} {F : List Nat} (h : Tm.own w c0 c1 t F) : Tm.at (· ∈ F) w c0 c1 t := by
  obtain ⟨rfl, h1, h2⟩ := h
  exact ⟨D.rd_str h1, D.own_rd _ _ _ h2⟩
theorem Tm.own_keep {w w' : World} {c0 c1 : Value} {t : Tm} {F : List Nat} (hk : Keeps (· ∈ F) w w') (h : Tm.own w c0 c1 t F) : Tm.own w' c0 c1 t F :=
  ⟨h.1, h.2.1, D.own_keep _ _ _ hk h.2.2⟩
theorem Tm.sd_own_form {w : World} {v : Value} {ts : List Tm} {F : List Nat} (h : D.own w v (Tm.sd ts) F) : ∃ a cap, v = .slice a ts.length cap := by
  rw [Tm.sd, D.own] at h
  obtain ⟨a, cap, e, _⟩ := h
  exact ⟨a, cap, e⟩

mutual
/-- are two trees one? -/
def Tm.eqb : Tm → Tm → Bool
  | .node n ts, .node m us => decide (n = m) && Tm.eqbs ts us
def Tm.eqbs : List Tm → List Tm → Bool
  | [], [] => true
  | t :: ts, u :: us => Tm.eqb t u && Tm.eqbs ts us
  | _, _ => false
end
theorem Tm.eqb_iff (t : Tm) : ∀ u, Tm.eqb t u = true ↔ t = u := by
  refine Tm.ind (P := fun t => ∀ u, Tm.eqb t u = true ↔ t = u) (fun n ts ih u => ?_) t
  obtain ⟨m, us⟩ := u
  rw [Tm.eqb]
  have key : ∀ ts us : List Tm, (∀ a ∈ ts, ∀ u, Tm.eqb a u = true ↔ a = u) → (Tm.eqbs ts us = true ↔ ts = us) := by
    intro ts
    induction ts with
    | nil => intro us _; cases us <;> simp [Tm.eqbs]
    | cons t ts iht =>
      intro us h
      cases us with
      | nil => simp [Tm.eqbs]
      | cons u us => simp [Tm.eqbs, h t (by simp) u, iht us fun a ha => h a (by simp [ha])]
  simp [key ts us ih]
theorem Tm.eqbs_iff (ts us : List Tm) : Tm.eqbs ts us = true ↔ ts = us := by
  have := Tm.eqb_iff (.node ⟨#[]⟩ ts) (.node ⟨#[]⟩ us)
  simpa [Tm.eqb] using this
theorem Tm.eqbs_length {ts us : List Tm} (h : ts.length ≠ us.length) : Tm.eqbs ts us = false := by
  rw [Bool.eq_false_iff]; intro e; exact h (by rw [(Tm.eqbs_iff _ _).1 e])
/-- as far as k the two lists are one, at k they part -/
theorem Tm.eqbs_at {ts us : List Tm} {k : Nat} (h1 : k < ts.length) (h2 : k < us.length) (hn : Tm.eqb ts[k] us[k] = false) : Tm.eqbs ts us = false := by
  rw [Bool.eq_false_iff]; intro e
  have := (Tm.eqbs_iff _ _).1 e
  subst this
  rw [(Tm.eqb_iff _ _).2 rfl] at hn
  exact absurd hn (by simp)
theorem Tm.eqbs_take {ts us : List Tm} {k : Nat} (h1 : k < ts.length) (h2 : k < us.length) (h : ts.take k = us.take k) (hn : Tm.eqb ts[k] us[k] = true) : ts.take (k + 1) = us.take (k + 1) := by
  rw [List.take_succ_eq_append_getElem h1, List.take_succ_eq_append_getElem h2, h, (Tm.eqb_iff _ _).1 hn]
end Go.Proofs.YtooocakkjdhfiaaDoor
