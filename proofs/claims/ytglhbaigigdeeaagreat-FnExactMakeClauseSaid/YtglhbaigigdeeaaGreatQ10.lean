/- Several texts in one file. -/
import Derived.Test.YtglhbaigigdeeaaGreatQ07
import Derived.Test.YtglhbaigigdeeaaGreatQ09
import Derived.Test.YtglhbaigigdeeaaGreatQ05
import Derived.Test.YtglhbaigigdeeaaGreatQ04
import Derived.Test.YtglhbaigigdeeaaGreatRows
import Derived.Test.YtglhbaigigdeeaaGreatQ01
import Derived.Test.YtglhbaigigdeeaaGreatQ02
import Derived.WalkSpells
import Derived.WalkLawsBesides
/- The order of terms and of literals is a strict order, and nothing but itself is equal: plain. -/
namespace Go.Proofs.YtglhbaigigdeeaaGreat
set_option maxRecDepth 100000
open Go.RowKit

theorem bl_total' {x y : List UInt8} (h : Op.bytesLess x y = false) (hn : x ≠ y) : Op.bytesLess y x = true := by
  have := bl_ge h
  rw [Bool.or_eq_true] at this
  rcases this with q | q
  · exact q
  · exact absurd (beq_iff_eq.1 q).symm hn
theorem toList_inj' {a b : ByteArray} (h : a.toList = b.toList) : a = b := Classical.byContradiction fun hn => by
  have := toList_ne hn
  rw [h] at this; simp at this
/-- x against y, y against z, x against z -/
def Tri (a b c : Int) : Prop := a ≤ 0 → b ≤ 0 → c ≤ 0 ∧ (c = 0 ↔ (a = 0 ∧ b = 0))
theorem Tri.or {a b c x y z : Int} (h : Tri a b c) (k : a = 0 → b = 0 → Tri x y z) : Tri (orZ a x) (orZ b y) (orZ c z) := by
  unfold Tri orZ at *
  intro h1 h2
  by_cases ha : a = 0
  · rw [if_pos ha] at h1
    by_cases hb : b = 0
    · rw [if_pos hb] at h2
      have h0 := h (by omega) (by omega)
      rw [if_pos ha, if_pos hb, if_pos (h0.2.2 ⟨ha, hb⟩)]
      exact k ha hb h1 h2
    · rw [if_neg hb] at h2
      have h0 := h (by omega) h2
      have hc : c ≠ 0 := fun e => hb (h0.2.1 e).2
      rw [if_neg hc, if_neg hb]
      exact ⟨h0.1, fun e => absurd e hc, fun e => absurd e.2 hb⟩
  · rw [if_neg ha] at h1
    have h2' : b ≤ 0 := by
      by_cases hb : b = 0
      · omega
      · rw [if_neg hb] at h2; exact h2
    have h0 := h h1 h2'
    have hc : c ≠ 0 := fun e => ha (h0.2.1 e).1
    rw [if_neg hc, if_neg ha]
    exact ⟨h0.1, fun e => absurd e hc, fun e => absurd e.1 ha⟩
theorem strCmp_zero {a b : ByteArray} (h : strCmp a b = 0) : a = b := Classical.byContradiction fun hn => strCmp_ne hn h
theorem strCmp_anti (a b : ByteArray) : strCmp b a = - strCmp a b := by
  by_cases h : a = b
  · subst h; rw [strCmp_self]; rfl
  · by_cases hl : Op.bytesLess a.toList b.toList = true
    · have hr : Op.bytesLess b.toList a.toList = false := by
        rw [Bool.eq_false_iff]; intro e
        have := blt_trans hl e
        rw [bl_irrefl] at this; cases this
      unfold strCmp
      rw [hl, hr, if_neg (by decide), if_neg (Ne.symm h), if_pos rfl]; rfl
    · have hr := bl_total' (Bool.eq_false_iff.2 hl) (fun e => h (toList_inj' e))
      unfold strCmp
      rw [hr, Bool.eq_false_iff.2 hl, if_pos rfl, if_neg (by decide), if_neg h]
theorem strCmp_tri (x y z : ByteArray) : Tri (strCmp x y) (strCmp y z) (strCmp x z) := by
  intro h1 h2
  by_cases e1 : x = y
  · subst e1
    exact ⟨h2, fun e => ⟨strCmp_self _, e⟩, fun e => e.2⟩
  · by_cases e2 : y = z
    · subst e2
      exact ⟨h1, fun e => ⟨e, strCmp_self _⟩, fun e => e.1⟩
    · have l1 := (strCmp_lt x y).1 (by have := strCmp_ne e1; omega)
      have l2 := (strCmp_lt y z).1 (by have := strCmp_ne e2; omega)
      have l3 := (strCmp_lt x z).2 (blt_trans l1 l2)
      exact ⟨by omega, fun e => absurd e (by omega), fun e => absurd e.1 (strCmp_ne e1)⟩
theorem numCmp_anti (a b : Int) : numCmp b a = - numCmp a b := by
  unfold numCmp
  by_cases h1 : a < b
  · rw [if_pos h1, if_neg (by omega), if_pos h1]; rfl
  · by_cases h2 : b < a
    · rw [if_pos h2, if_neg h1, if_pos h2]
    · rw [if_neg h2, if_neg h1, if_neg h1, if_neg h2]; rfl
theorem numCmp_zero {a b : Int} (h : numCmp a b = 0) : a = b := by
  unfold numCmp at h
  split at h
  · cases h
  · split at h
    · cases h
    · omega
theorem numCmp_self (a : Int) : numCmp a a = 0 := by unfold numCmp; rw [if_neg (by omega), if_neg (by omega)]
theorem numCmp_neg {a b : Int} : numCmp a b < 0 ↔ a < b := by
  unfold numCmp
  split
  · rename_i h; exact ⟨fun _ => h, fun _ => by decide⟩
  · rename_i h
    split
    · exact ⟨fun e => absurd e (by decide), fun e => absurd e h⟩
    · exact ⟨fun e => absurd e (by decide), fun e => absurd e h⟩
theorem numCmp_tri (x y z : Int) : Tri (numCmp x y) (numCmp y z) (numCmp x z) := by
  intro h1 h2
  have k1 : x ≤ y := by
    by_cases e : numCmp x y = 0
    · have := numCmp_zero e; omega
    · have := numCmp_neg.1 (show numCmp x y < 0 by omega); omega
  have k2 : y ≤ z := by
    by_cases e : numCmp y z = 0
    · have := numCmp_zero e; omega
    · have := numCmp_neg.1 (show numCmp y z < 0 by omega); omega
  refine ⟨?_, fun e => ?_, fun e => ?_⟩
  · by_cases e : x < z
    · have := numCmp_neg.2 e; omega
    · have : x = z := by omega
      subst this; rw [numCmp_self]; decide
  · have := numCmp_zero e
    have e1 : x = y := by omega
    have e2 : y = z := by omega
    subst e1 e2
    exact ⟨numCmp_self _, numCmp_self _⟩
  · have e1 := numCmp_zero e.1
    have e2 := numCmp_zero e.2
    subst e1 e2; exact numCmp_self _
/-- variables come first -/
def flCmp (n m : ByteArray) : Int := if (varName n && !varName m) = true then -1 else if (varName m && !varName n) = true then 1 else 0
theorem flCmp_anti (n m : ByteArray) : flCmp m n = - flCmp n m := by
  unfold flCmp
  cases varName n <;> cases varName m <;> rfl
theorem flCmp_tri (n m k : ByteArray) : Tri (flCmp n m) (flCmp m k) (flCmp n k) := by
  unfold flCmp Tri
  cases varName n <;> cases varName m <;> cases varName k <;> simp
theorem flCmp_self (n : ByteArray) : flCmp n n = 0 := by
  unfold flCmp
  cases varName n <;> rfl
theorem Tm.cmp_or (t u : Tm) : Tm.cmp t u = orZ (flCmp t.name u.name) (orZ (strCmp t.name u.name) (orZ (numCmp t.args.length u.args.length) (Tm.cmps t.args u.args))) := by
  rw [Tm.cmp_eq, flCmp]
  split
  · rfl
  · split
    · rfl
    · rfl
theorem orZ_zero {x y : Int} (h : orZ x y = 0) : x = 0 ∧ y = 0 := by
  unfold orZ at h
  split at h
  · rename_i e; exact ⟨e, h⟩
  · rename_i e; exact absurd h e
theorem orZ_neg (x y : Int) : orZ (-x) (-y) = - orZ x y := by
  unfold orZ
  by_cases h : x = 0
  · rw [if_pos h, if_pos (by omega)]
  · rw [if_neg h, if_neg (by omega)]
theorem Tm.cmps_anti : ∀ (ts us : List Tm), (∀ t ∈ ts, ∀ u, Tm.cmp u t = - Tm.cmp t u) → Tm.cmps us ts = - Tm.cmps ts us
  | [], us, _ => by cases us <;> simp [Tm.cmps]
  | _ :: _, [], _ => by simp [Tm.cmps]
  | t :: ts, u :: us, h => by
    rw [Tm.cmps, Tm.cmps, h t (by simp) u, Tm.cmps_anti ts us fun a ha => h a (by simp [ha]), orZ_neg]
theorem Tm.cmp_anti (t : Tm) : ∀ u, Tm.cmp u t = - Tm.cmp t u := by
  refine Tm.ind (P := fun t => ∀ u, Tm.cmp u t = - Tm.cmp t u) (fun n ts ih u => ?_) t
  obtain ⟨m, us⟩ := u
  rw [Tm.cmp_or, Tm.cmp_or, flCmp_anti, strCmp_anti, numCmp_anti]
  simp only [Tm.name, Tm.args]
  rw [Tm.cmps_anti ts us ih, orZ_neg, orZ_neg, orZ_neg]
theorem Tm.cmps_zero : ∀ (ts us : List Tm), ts.length = us.length → (∀ t ∈ ts, ∀ u, Tm.cmp t u = 0 → t = u) → Tm.cmps ts us = 0 → ts = us
  | [], [], _, _, _ => rfl
  | [], _ :: _, h, _, _ => by simp at h
  | _ :: _, [], h, _, _ => by simp at h
  | t :: ts, u :: us, hl, h, e => by
    rw [Tm.cmps] at e
    obtain ⟨e1, e2⟩ := orZ_zero e
    rw [h t (by simp) u e1, Tm.cmps_zero ts us (by simpa using hl) (fun a ha => h a (by simp [ha])) e2]
theorem Tm.cmp_zero (t : Tm) : ∀ u, Tm.cmp t u = 0 → t = u := by
  refine Tm.ind (P := fun t => ∀ u, Tm.cmp t u = 0 → t = u) (fun n ts ih u h => ?_) t
  obtain ⟨m, us⟩ := u
  rw [Tm.cmp_or] at h
  simp only [Tm.name, Tm.args] at h
  obtain ⟨-, h⟩ := orZ_zero h
  obtain ⟨h1, h⟩ := orZ_zero h
  obtain ⟨h2, h⟩ := orZ_zero h
  have hl : ts.length = us.length := by have := numCmp_zero h2; omega
  rw [strCmp_zero h1, Tm.cmps_zero ts us hl ih h]
theorem Tm.cmps_self : ∀ (ts : List Tm), (∀ t ∈ ts, Tm.cmp t t = 0) → Tm.cmps ts ts = 0
  | [], _ => by simp [Tm.cmps]
  | t :: ts, h => by rw [Tm.cmps, h t (by simp), orZ, if_pos rfl, Tm.cmps_self ts fun a ha => h a (by simp [ha])]
theorem Tm.cmp_self (t : Tm) : Tm.cmp t t = 0 := by
  refine Tm.ind (P := fun t => Tm.cmp t t = 0) (fun n ts ih => ?_) t
  rw [Tm.cmp_or]
  simp only [Tm.name, Tm.args]
  rw [flCmp_self, strCmp_self, numCmp_self, Tm.cmps_self ts ih]; rfl
theorem Tm.cmps_tri : ∀ (ts us vs : List Tm), ts.length = us.length → us.length = vs.length → (∀ t ∈ ts, ∀ u v, Tri (Tm.cmp t u) (Tm.cmp u v) (Tm.cmp t v)) → Tri (Tm.cmps ts us) (Tm.cmps us vs) (Tm.cmps ts vs)
  | [], us, vs, h1, h2, _ => by
    cases us with
    | nil => intro _ _; simp [Tm.cmps]
    | cons u us => simp at h1
  | t :: ts, [], vs, h1, _, _ => by simp at h1
  | t :: ts, u :: us, [], _, h2, _ => by simp at h2
  | t :: ts, u :: us, v :: vs, h1, h2, h => by
    rw [Tm.cmps, Tm.cmps, Tm.cmps]
    exact (h t (by simp) u v).or fun _ _ => Tm.cmps_tri ts us vs (by simpa using h1) (by simpa using h2) fun a ha => h a (by simp [ha])
theorem Tm.cmp_tri (t : Tm) : ∀ u v, Tri (Tm.cmp t u) (Tm.cmp u v) (Tm.cmp t v) := by
  refine Tm.ind (P := fun t => ∀ u v, Tri (Tm.cmp t u) (Tm.cmp u v) (Tm.cmp t v)) (fun n ts ih u v => ?_) t
  obtain ⟨m, us⟩ := u
  obtain ⟨k, vs⟩ := v
  rw [Tm.cmp_or, Tm.cmp_or (.node m us), Tm.cmp_or (.node n ts) (.node k vs)]
  refine (flCmp_tri _ _ _).or fun _ _ => (strCmp_tri _ _ _).or fun _ _ => (numCmp_tri _ _ _).or fun e1 e2 => ?_
  have h1 := numCmp_zero e1
  have h2 := numCmp_zero e2
  simp only [Tm.args] at *
  exact Tm.cmps_tri ts us vs (by omega) (by omega) ih
theorem flagI_inj {p q : Bool} (h : flagI p = flagI q) : p = q := by cases p <;> cases q <;> simp [flagI] at h <;> rfl
theorem Lit.cmp_anti (x y : Lit) : Lit.cmp y x = - Lit.cmp x y := by rw [Lit.cmp, Lit.cmp, Tm.cmp_anti, numCmp_anti, orZ_neg]
theorem Lit.cmp_zero {x y : Lit} (h : Lit.cmp x y = 0) : x = y := by
  obtain ⟨h1, h2⟩ := orZ_zero h
  obtain ⟨p, t⟩ := x
  obtain ⟨q, u⟩ := y
  have e1 := Tm.cmp_zero _ _ h1
  have e2 := flagI_inj (numCmp_zero h2)
  simp only at e1 e2
  rw [e1, e2]
theorem Lit.cmp_self (x : Lit) : Lit.cmp x x = 0 := by rw [Lit.cmp, Tm.cmp_self, numCmp_self]; rfl
theorem Lit.cmp_tri (x y z : Lit) : Tri (Lit.cmp x y) (Lit.cmp y z) (Lit.cmp x z) := (Tm.cmp_tri _ _ _).or fun _ _ => numCmp_tri _ _ _
theorem Lit.lt_trans {x y z : Lit} (h : Lit.cmp x y < 0) (k : Lit.cmp y z < 0) : Lit.cmp x z < 0 := by
  obtain ⟨h0, h1⟩ := Lit.cmp_tri x y z (by omega) (by omega)
  have : Lit.cmp x z ≠ 0 := fun e => by have := (h1.1 e).1; omega
  omega
theorem Lit.lt_ntrans {x y z : Lit} (h : ¬ Lit.cmp x y < 0) (k : ¬ Lit.cmp y z < 0) : ¬ Lit.cmp x z < 0 := by
  have a1 := Lit.cmp_anti x y
  have a2 := Lit.cmp_anti y z
  have a3 := Lit.cmp_anti x z
  have := (Lit.cmp_tri z y x (by omega) (by omega)).1
  omega
theorem Lit.cmp_ne {x y : Lit} (h : Lit.cmp x y ≠ 0) (k : ¬ Lit.cmp x y < 0) : Lit.cmp y x < 0 := by have := Lit.cmp_anti x y; omega

/-- strictly ascending -/
def AscL (l : List Lit) : Prop := l.Pairwise fun a b => Lit.cmp a b < 0
/-- a literal is put at its place, if it is not there -/
def insL (s : List Lit) (x : Lit) : List Lit :=
  match s.dropWhile (fun y => decide (Lit.cmp y x < 0)) with
  | [] => s.takeWhile (fun y => decide (Lit.cmp y x < 0)) ++ [x]
  | y :: r => if Lit.cmp y x = 0 then s else s.takeWhile (fun y => decide (Lit.cmp y x < 0)) ++ x :: y :: r
/-- sorted and without duplicates -/
def makeL (l : List Lit) : List Lit := l.foldl insL []
theorem makeL_snoc (l : List Lit) (k : Nat) (h : k < l.length) : makeL (l.take (k + 1)) = insL (makeL (l.take k)) l[k] := by
  rw [makeL, List.take_succ_eq_append_getElem h, List.foldl_append]; rfl
theorem insL_mem (s : List Lit) (x a : Lit) : a ∈ insL s x ↔ a ∈ s ∨ a = x := by
  have hs := List.takeWhile_append_dropWhile (p := fun y => decide (Lit.cmp y x < 0)) (l := s)
  rw [insL]
  split
  · rename_i e
    rw [e, List.append_nil] at hs
    rw [hs]; simp
  · rename_i y r e
    split
    · rename_i h0
      have hx := Lit.cmp_zero h0
      subst hx
      constructor
      · exact .inl
      · rintro (h | h)
        · exact h
        · subst h; rw [← hs, e]; simp
    · rw [e] at hs
      conv => rhs; rw [← hs]
      simp only [List.mem_append, List.mem_cons]
      constructor
      · rintro (h | h | h | h) <;> simp [h]
      · rintro ((h | h | h) | h) <;> simp [h]
theorem takeW_mem {α : Type} {p : α → Bool} : ∀ {l : List α} {x : α}, x ∈ l.takeWhile p → p x = true
  | [], _, h => by simp at h
  | a :: l, x, h => by
    rw [List.takeWhile_cons] at h
    split at h
    · rename_i ha
      rcases List.mem_cons.1 h with rfl | h
      · exact ha
      · exact takeW_mem h
    · simp at h
theorem dropW_head {α : Type} {p : α → Bool} : ∀ {l : List α} {y : α} {r : List α}, l.dropWhile p = y :: r → p y = false
  | [], _, _, h => by simp at h
  | a :: l, y, r, h => by
    rw [List.dropWhile_cons] at h
    split at h
    · exact dropW_head h
    · rename_i ha
      injection h with h1 h2
      subst h1; simpa using ha
theorem insL_asc {s : List Lit} {x : Lit} (h : AscL s) : AscL (insL s x) := by
  have hs := List.takeWhile_append_dropWhile (p := fun y => decide (Lit.cmp y x < 0)) (l := s)
  have ht : ∀ a ∈ s.takeWhile (fun y => decide (Lit.cmp y x < 0)), Lit.cmp a x < 0 := fun a ha => by have := takeW_mem ha; simpa using this
  rw [insL]
  split
  · rename_i e
    rw [e, List.append_nil] at hs
    rw [AscL, List.pairwise_append, hs]
    refine ⟨h, by simp, fun a ha b hb => ?_⟩
    rw [List.mem_singleton] at hb
    subst hb
    exact ht a (by rw [hs]; exact ha)
  · rename_i y r e
    split
    · exact h
    · rename_i h0
      have hy : ¬ Lit.cmp y x < 0 := by have := dropW_head e; simpa using this
      have hxy := Lit.cmp_ne h0 hy
      have hsub : AscL (s.takeWhile (fun y => decide (Lit.cmp y x < 0))) := h.sublist (List.takeWhile_sublist _)
      have hdrop : AscL (y :: r) := by rw [← e]; exact h.sublist (List.dropWhile_sublist _)
      have hr : ∀ b ∈ y :: r, Lit.cmp x b < 0 := fun b hb => by
        rcases List.mem_cons.1 hb with rfl | hb
        · exact hxy
        · rw [AscL, List.pairwise_cons] at hdrop
          exact Lit.lt_trans hxy (hdrop.1 b hb)
      rw [AscL, List.pairwise_append]
      refine ⟨hsub, List.pairwise_cons.2 ⟨hr, hdrop⟩, fun a ha b hb => ?_⟩
      rcases List.mem_cons.1 hb with rfl | hb
      · exact ht a ha
      · exact Lit.lt_trans (ht a ha) (hr b hb)
theorem foldl_ins (l : List Lit) : ∀ s, AscL s → AscL (l.foldl insL s) ∧ ∀ a, a ∈ l.foldl insL s ↔ a ∈ s ∨ a ∈ l := by
  induction l with
  | nil => intro s hs; exact ⟨hs, fun a => by simp⟩
  | cons x l ih =>
    intro s hs
    rw [List.foldl_cons]
    obtain ⟨h1, h2⟩ := ih _ (insL_asc (x := x) hs)
    refine ⟨h1, fun a => ?_⟩
    rw [h2, insL_mem, List.mem_cons, or_assoc]
theorem makeL_asc (l : List Lit) : AscL (makeL l) := (foldl_ins l [] List.Pairwise.nil).1
theorem makeL_mem (l : List Lit) (a : Lit) : a ∈ makeL l ↔ a ∈ l := by
  rw [makeL, (foldl_ins l [] List.Pairwise.nil).2]; simp
theorem asc_one : ∀ {l k : List Lit}, AscL l → AscL k → (∀ a, a ∈ l ↔ a ∈ k) → l = k
  | [], [], _, _, _ => rfl
  | [], b :: k, _, _, h => absurd ((h b).2 (by simp)) (by simp)
  | a :: l, [], _, _, h => absurd ((h a).1 (by simp)) (by simp)
  | a :: l, b :: k, hl, hk, h => by
    rw [AscL, List.pairwise_cons] at hl hk
    have hself : ∀ x, ¬ Lit.cmp x x < 0 := fun x => by rw [Lit.cmp_self]; decide
    have hab : a = b := by
      rcases List.mem_cons.1 ((h a).1 (by simp)) with e | e
      · exact e
      · rcases List.mem_cons.1 ((h b).2 (by simp)) with e' | e'
        · exact e'.symm
        · exact absurd (Lit.lt_trans (hl.1 b e') (hk.1 a e)) (hself a)
    subst hab
    rw [asc_one hl.2 hk.2 fun c => ?_]
    constructor
    · intro hc
      rcases List.mem_cons.1 ((h c).1 (by simp [hc])) with e | e
      · subst e; exact absurd (hl.1 c hc) (hself c)
      · exact e
    · intro hc
      rcases List.mem_cons.1 ((h c).2 (by simp [hc])) with e | e
      · subst e; exact absurd (hk.1 c hc) (hself c)
      · exact e

/-- neighbours that are alike are left out: what comes behind y -/
def dedL : Lit → List Lit → List Lit
  | _, [] => []
  | y, x :: r => if Lit.eqb x y = true then dedL y r else x :: dedL x r
theorem dedL_asc : ∀ (r : List Lit) (y : Lit), (y :: r).Pairwise (fun a b => ¬ Lit.cmp b a < 0) → AscL (y :: dedL y r) ∧ ∀ a, a ∈ y :: dedL y r ↔ a ∈ y :: r
  | [], y, _ => ⟨by simp [AscL, dedL], fun a => by simp [dedL]⟩
  | x :: r, y, h => by
    rw [List.pairwise_cons] at h
    rw [dedL]
    split
    · rename_i e
      rw [Lit.eqb_iff] at e
      subst e
      obtain ⟨h1, h2⟩ := dedL_asc r x h.2
      exact ⟨h1, fun a => by rw [h2]; simp⟩
    · rename_i e
      rw [Lit.eqb_iff] at e
      obtain ⟨h1, h2⟩ := dedL_asc r x h.2
      have hyx : Lit.cmp y x < 0 := by
        have := h.1 x (by simp)
        have h0 : Lit.cmp y x ≠ 0 := fun q => e (Lit.cmp_zero q).symm
        have := Lit.cmp_anti y x
        omega
      refine ⟨?_, fun a => ?_⟩
      · rw [AscL, List.pairwise_cons]
        refine ⟨fun b hb => ?_, h1⟩
        rcases List.mem_cons.1 hb with rfl | hb
        · exact hyx
        · have h1' := h1
          rw [AscL, List.pairwise_cons] at h1'
          exact Lit.lt_trans hyx (h1'.1 b hb)
      · rw [List.mem_cons, h2, ← List.mem_cons]
def compactL : List Lit → List Lit
  | [] => []
  | y :: r => y :: dedL y r
theorem compact_make {l ys : List Lit} (hp : ys.Perm l) (hs : ys.Pairwise fun a b => ¬ Lit.cmp b a < 0) : compactL ys = makeL l := by
  cases ys with
  | nil => rw [List.nil_perm.1 hp]; rfl
  | cons y r =>
    obtain ⟨h1, h2⟩ := dedL_asc r y hs
    exact asc_one h1 (makeL_asc l) fun a => by rw [makeL_mem, ← hp.mem_iff]; exact h2 a
end Go.Proofs.YtglhbaigigdeeaaGreat
/- Rows whose cells are stored anew; what is kept of a list. -/
namespace Go.Proofs.YtglhbaigigdeeaaGreat
set_option maxRecDepth 100000
open Go.RowKit

/-! ### rows whose cells are stored -/
theorem RowAt.setCells {b off : Nat} {e : TypeId} : ∀ (us : List Value) {w : World} {vs : List Value} {s : Nat}, RowAt w b off e vs → s + us.length ≤ vs.length → ∃ vs', RowAt (w.setCells b (off + s) us) b off e vs' ∧ vs'.length = vs.length ∧ ∀ i, i < s → vs'[i]? = vs[i]?
  | [], w, vs, s, h, _ => ⟨vs, h, rfl, fun _ _ => rfl⟩
  | u :: us, w, vs, s, h, hl => by
    simp only [List.length_cons] at hl
    have h1 := h.set (i := s) (by omega) u
    obtain ⟨vs', h2, h3, h4⟩ := RowAt.setCells us (s := s + 1) h1 (by rw [List.length_set]; omega)
    refine ⟨vs', ?_, by rw [h3, List.length_set], fun i hi => ?_⟩
    · rw [World.setCells]
      rw [show off + s + 1 = off + (s + 1) by omega]
      exact h2
    · rw [h4 i (by omega), List.getElem?_set_ne (by omega)]
theorem Mk.setCells {F : List Nat} {b : Nat} (hb : b ∈ F) : ∀ (us : List Value) (o : Nat) (w : World), Mk F w (w.setCells b o us)
  | [], _, w => Mk.refl _ _
  | u :: us, o, w => by rw [World.setCells]; exact (Mk.set hb u).trans (Mk.setCells hb us (o + 1) _)
/-- clear(s) of a list of structs -/
theorem run_clear_rows {P : Program} (w : World) (t e : TypeId) (z : Value) (m : Nat) (ht : P.underlying t = some (.slice e)) (hv : ∀ w, (zeroValue e).run P w = .ok z w) (hz : z.cells.size = m) (hm : 0 < m) (h1 : ∀ v ∈ z.cells.toList, v.oneCell' = true) (b o n c : Nat) (hn : 0 < n)
    (hc : ∀ j, j < n * m → (w.cell? ⟨b, o + j, none⟩).isSome = true) (hf : ∀ j, j < n * m → w.frozen? ⟨b, o + j, none⟩ = false) :
    ∃ us : List Value, us.length = n * m ∧ ∀ ty, (Builtin.clear_ #[t] ty #[.slice (some ⟨b, o, none⟩) n c]).run P w = .ok (.tuple #[]) (w.setCells b o us) := by
  have hl : (Builtin.zeroCells z.cells n).toList.length = n * m := by simp [Builtin.zeroCells, hz]
  refine ⟨(Builtin.zeroCells z.cells n).toList, hl, fun ty => ?_⟩
  have hst := run_storeCells_cells (P := P) b o (Builtin.zeroCells z.cells n).toList 0 w (by rw [hl]; simpa using hc) (by rw [hl]; simpa using hf) (by
    intro v hv'
    simp only [Builtin.zeroCells, Array.toList_map, List.mem_map] at hv'
    obtain ⟨i, hi, rfl⟩ := hv'
    have hlt : i % z.cells.size < z.cells.size := Nat.mod_lt _ (by omega)
    rw [getElem!_pos z.cells _ hlt]
    exact h1 _ (by simp))
  simp only [Nat.add_zero] at hst
  obtain ⟨n, rfl⟩ : ∃ k, n = k + 1 := ⟨n - 1, by omega⟩
  simp [Builtin.clear_, run_underlying ht, hv, hst]

/-! ### what is kept -/
theorem filter_take_snoc {α : Type} (p : α → Bool) (d : List α) (j : Nat) (h : j < d.length) : (d.take (j + 1)).filter p = (d.take j).filter p ++ if p d[j] = true then [d[j]] else [] := by
  rw [List.take_succ_eq_append_getElem h, List.filter_append]
  congr 1
  cases hp : p d[j] <;> simp [hp]
/-- the row after j items: the kept ones ahead, those to come as they were -/
def KInv {α : Type} (p : α → Bool) (d : List α) (j i : Nat) (E : List α) : Prop := E.length = d.length ∧ i = ((d.take j).filter p).length ∧ E.take i = (d.take j).filter p ∧ E.drop j = d.drop j ∧ i < j ∧ j ≤ d.length
theorem KInv.keep {α : Type} {p : α → Bool} {d E : List α} {j i : Nat} (h : KInv p d j i E) (hj : j < d.length) (hp : p d[j] = true) : KInv p d (j + 1) (i + 1) (E.set i d[j]) := by
  obtain ⟨h0, h1, h2, h3, h4, h5⟩ := h
  have hs := filter_take_snoc p d j hj
  rw [if_pos hp] at hs
  refine ⟨by rw [List.length_set, h0], by rw [hs, List.length_append, ← h1]; rfl, ?_, ?_, by omega, by omega⟩
  · rw [hs, ← h2]
    rw [List.take_succ_eq_append_getElem (by rw [List.length_set]; omega), List.take_set_of_le (Nat.le_refl _)]
    simp
  · rw [List.drop_set_of_lt (by omega)]
    have := congrArg (List.drop 1) h3
    simpa only [List.drop_drop] using this
theorem KInv.skip {α : Type} {p : α → Bool} {d E : List α} {j i : Nat} (h : KInv p d j i E) (hj : j < d.length) (hp : p d[j] = false) : KInv p d (j + 1) i E := by
  obtain ⟨h0, h1, h2, h3, h4, h5⟩ := h
  have hs := filter_take_snoc p d j hj
  rw [if_neg (by simp [hp]), List.append_nil] at hs
  exact ⟨h0, by rw [hs]; exact h1, by rw [hs]; exact h2, by have := congrArg (List.drop 1) h3; simpa only [List.drop_drop] using this, by omega, by omega⟩
theorem KInv.at {α : Type} {p : α → Bool} {d E : List α} {j i : Nat} (h : KInv p d j i E) (hj : j < d.length) (hE : j < E.length) : E[j] = d[j] := by
  have h3 := h.2.2.2.1
  rw [List.drop_eq_getElem_cons hE, List.drop_eq_getElem_cons hj] at h3
  injection h3
theorem KInv.start {α : Type} {p : α → Bool} {d : List α} {k : Nat} (hk : k < d.length) (hall : ∀ j (h : j < d.length), j < k → p d[j] = true) (hno : p d[k] = false) : KInv p d (k + 1) k d := by
  have hf : (d.take k).filter p = d.take k := by
    rw [List.filter_eq_self]
    intro a ha
    obtain ⟨j, hj, rfl⟩ := List.mem_iff_getElem.1 ha
    rw [List.length_take] at hj
    rw [List.getElem_take]
    exact hall j (by omega) (by omega)
  have hs := filter_take_snoc p d k hk
  rw [if_neg (by simp [hno]), List.append_nil, hf] at hs
  exact ⟨rfl, by rw [hs, List.length_take]; omega, by rw [hs], rfl, by omega, by omega⟩
end Go.Proofs.YtglhbaigigdeeaaGreat
/- Literals as rows; neighbours that are alike are struck: plain. -/
namespace Go.Proofs.YtglhbaigigdeeaaGreat
set_option maxRecDepth 100000
open Go.RowKit

abbrev LV := Lit × Value
abbrev TV := Bool × LV
def Lit.ev (p : LV) : List Value := [.bool p.1.pos, .string p.1.atom.name, p.2]
def Lit.ed (p : LV) : List D := p.1.cs
theorem Lit.ev_ed (p : LV) : (Lit.ev p).length = (Lit.ed p).length := by rw [Lit.ed, Lit.cs_eq]; rfl
theorem Lit.items {w : World} : ∀ (xs : List Lit) (vs : List Value) (F : List Nat), OwnsL w vs (Lit.css xs) F → ∃ d : List LV, d.map Prod.fst = xs ∧ vs = d.flatMap Lit.ev ∧ ∀ p ∈ d, p.1.atom.name.size ≤ maxLen ∧ (∃ a c, p.2 = .slice a p.1.atom.args.length c) ∧ D.rd (· ∈ F) w p.2 (Tm.sd p.1.atom.args)
  | [], vs, F, h => by
    have := h.length
    have hv : vs = [] := List.length_eq_zero_iff.1 (by simpa [Lit.css] using this)
    exact ⟨[], rfl, hv, by simp⟩
  | x :: xs, vs, F, h => by
    have hl := h.length
    rw [Lit.css_flat, List.flatMap_cons, Lit.cs_eq] at h hl
    simp only [List.length_append, List.length_cons, List.length_nil] at hl
    match vs, hl, h with
    | v0 :: v1 :: v2 :: vs, _, h =>
      rw [show ([D.bit x.pos, D.str x.atom.name, Tm.sd x.atom.args] ++ xs.flatMap Lit.cs) = D.bit x.pos :: D.str x.atom.name :: Tm.sd x.atom.args :: xs.flatMap Lit.cs from rfl] at h
      rw [OwnsL] at h
      obtain ⟨G0, R0, e0, _, o0, h⟩ := h
      rw [OwnsL] at h
      obtain ⟨G1, R1, e1, _, o1, h⟩ := h
      rw [OwnsL] at h
      obtain ⟨G2, R2, e2, _, o2, h⟩ := h
      have o0' : v0 = .bool x.pos := by have := o0; unfold D.own at this; exact this.1
      have o1' : v1 = .string x.atom.name ∧ x.atom.name.size ≤ maxLen := by have := o1; unfold D.own at this; exact ⟨this.1, this.2.1⟩
      obtain ⟨d, hd, hv, hs⟩ := Lit.items xs vs R2 (by rw [Lit.css_flat]; exact h)
      refine ⟨(x, v2) :: d, by simp [hd], ?_, fun p hp => ?_⟩
      · rw [o0', o1'.1, hv, List.flatMap_cons]; rfl
      · rcases List.mem_cons.1 hp with rfl | hp
        · exact ⟨o1'.2, Tm.sd_own_form o2, D.rd_mono (fun y hy => by rw [e0, e1, e2]; simp [hy]) _ _ (D.own_rd _ _ _ o2)⟩
        · obtain ⟨q0, q1, q2⟩ := hs p hp
          exact ⟨q0, q1, D.rd_mono (fun y hy => by rw [e0, e1, e2]; simp [hy]) _ _ q2⟩
    | [_, _], hl, _ => simp at hl; omega
    | [_], hl, _ => simp at hl; omega
    | [], hl, _ => simp at hl; omega
theorem Lit.flat_ed (d : List LV) : d.flatMap Lit.ed = Lit.css (d.map Prod.fst) := by
  induction d with
  | nil => rfl
  | cons p d ih => rw [List.flatMap_cons, ih, List.map_cons, Lit.css_flat, Lit.css_flat, List.flatMap_cons]; rfl
/-! items with a tag -/
def TV.ev (p : TV) : List Value := Lit.ev p.2
theorem TV.ev_get : ∀ (d : List TV) (k : Nat) (h : k < d.length), (d.flatMap TV.ev)[k * 3]? = some (.bool d[k].2.1.pos) ∧ (d.flatMap TV.ev)[k * 3 + 1]? = some (.string d[k].2.1.atom.name) ∧ (d.flatMap TV.ev)[k * 3 + 2]? = some d[k].2.2
  | [], k, h => absurd h (by simp)
  | p :: d, 0, _ => by simp [TV.ev, Lit.ev]
  | p :: d, k + 1, h => by
    have ih := TV.ev_get d k (by simpa using h)
    rw [List.flatMap_cons, TV.ev, Lit.ev]
    rw [show (k + 1) * 3 = k * 3 + 1 + 1 + 1 by omega, show k * 3 + 1 + 1 + 1 + 1 = (k * 3 + 1) + 1 + 1 + 1 by omega, show k * 3 + 1 + 1 + 1 + 2 = (k * 3 + 2) + 1 + 1 + 1 by omega]
    simpa using ih
theorem TV.ev_length (d : List TV) : (d.flatMap TV.ev).length = d.length * 3 := by
  induction d with
  | nil => rfl
  | cons p d ih => rw [List.flatMap_cons, List.length_append, ih, List.length_cons]; show 3 + _ = _; omega
theorem TV.ev_set : ∀ (d : List TV) (k : Nat) (p : TV) (_ : k < d.length), (((d.flatMap TV.ev).set (k * 3) (.bool p.2.1.pos)).set (k * 3 + 1) (.string p.2.1.atom.name)).set (k * 3 + 2) p.2.2 = (d.set k p).flatMap TV.ev
  | [], k, _, h => absurd h (by simp)
  | q :: d, 0, p, _ => by simp [TV.ev, Lit.ev]
  | q :: d, k + 1, p, h => by
    have ih := TV.ev_set d k p (by simpa using h)
    rw [List.set_cons_succ, List.flatMap_cons, List.flatMap_cons, TV.ev, Lit.ev]
    rw [show (k + 1) * 3 = k * 3 + 1 + 1 + 1 by omega, show k * 3 + 1 + 1 + 1 + 1 = (k * 3 + 1) + 1 + 1 + 1 by omega, show k * 3 + 1 + 1 + 1 + 2 = (k * 3 + 2) + 1 + 1 + 1 by omega]
    simpa using ih
theorem TV.ev_take (d : List TV) (k : Nat) : ∀ i, i < k * 3 → (d.flatMap TV.ev)[i]? = ((d.take k).flatMap TV.ev)[i]? := by
  intro i hi
  have e : d.flatMap TV.ev = (d.take k).flatMap TV.ev ++ (d.drop k).flatMap TV.ev := by rw [← List.flatMap_append, List.take_append_drop]
  rw [e]
  by_cases hk : k ≤ d.length
  · rw [List.getElem?_append_left (by rw [TV.ev_length, List.length_take, Nat.min_eq_left hk]; exact hi)]
  · rw [List.drop_eq_nil_of_le (by omega)]; simp
/-- the tag tells whether an item differs from the one before it -/
def tagD : Option Lit → List LV → List TV
  | _, [] => []
  | o, p :: d => ((match o with | none => true | some y => !Lit.eqb p.1 y), p) :: tagD (some p.1) d
theorem tagD_snd : ∀ (o : Option Lit) (d : List LV), (tagD o d).map Prod.snd = d
  | o, [] => by cases o <;> rfl
  | o, p :: d => by simp only [tagD, List.map_cons, tagD_snd]
theorem tagD_length (o : Option Lit) (d : List LV) : (tagD o d).length = d.length := by
  have := congrArg List.length (tagD_snd o d); simpa using this
theorem tagD_ev (o : Option Lit) (d : List LV) : (tagD o d).flatMap TV.ev = d.flatMap Lit.ev := by
  conv => rhs; rw [← tagD_snd o d]
  rw [List.flatMap_map]; rfl
theorem tagD_get (o : Option Lit) (d : List LV) (k : Nat) (h : k < (tagD o d).length) (h' : k < d.length) : (tagD o d)[k].2 = d[k] := by
  have : ((tagD o d).map Prod.snd)[k]'(by simpa using h) = d[k] := by simp only [tagD_snd]
  simpa using this
theorem tagD_first (d : List LV) (h : 0 < (tagD none d).length) : (tagD none d)[0].1 = true := by
  cases d with
  | nil => simp [tagD] at h
  | cons p d => rfl
theorem tagD_next : ∀ (o : Option Lit) (d : List LV) (k : Nat) (h : k + 1 < (tagD o d).length) (h1 : k + 1 < d.length), (tagD o d)[k + 1].1 = !Lit.eqb d[k + 1].1 d[k].1
  | o, [], k, h, _ => absurd h (by simp [tagD])
  | o, [p], k, h, _ => absurd h (by simp [tagD])
  | o, p :: q :: d, 0, _, _ => by simp [tagD]
  | o, p :: q :: d, k + 1, h, h1 => by
    have := tagD_next (some p.1) (q :: d) k (by simpa [tagD] using h) (by simpa using h1)
    simpa [tagD] using this
theorem tagD_ded : ∀ (d : List LV) (y : Lit), (((tagD (some y) d).filter Prod.fst).map fun p => p.2.1) = dedL y (d.map Prod.fst)
  | [], y => rfl
  | p :: d, y => by
    rw [tagD, List.map_cons, dedL]
    cases he : Lit.eqb p.1 y with
    | true =>
      rw [List.filter_cons_of_neg (by simp), if_pos rfl, tagD_ded d p.1, (Lit.eqb_iff _ _).1 he]
    | false =>
      rw [List.filter_cons_of_pos (by simp), if_neg (by simp), List.map_cons, tagD_ded d p.1]
theorem tagD_compact (d : List LV) : (((tagD none d).filter Prod.fst).map fun p => p.2.1) = compactL (d.map Prod.fst) := by
  cases d with
  | nil => rfl
  | cons p d =>
    rw [tagD, List.filter_cons_of_pos rfl, List.map_cons, tagD_ded, List.map_cons, compactL]
/-- no two neighbours alike: nothing is struck -/
theorem compact_same {xs : List Lit} (h : ∀ k (h : k + 1 < xs.length), Lit.eqb xs[k + 1] xs[k] = false) : compactL xs = xs := by
  have key : ∀ (r : List Lit) (y : Lit), (∀ k (h : k + 1 < (y :: r).length), Lit.eqb (y :: r)[k + 1] (y :: r)[k] = false) → dedL y r = r := by
    intro r
    induction r with
    | nil => intro _ _; rfl
    | cons x r ih =>
      intro y h
      have h0 : Lit.eqb x y = false := h 0 (by simp)
      rw [dedL, if_neg (by rw [h0]; decide), ih x fun k hk => by have := h (k + 1) (by simpa using hk); simpa using this]
  cases xs with
  | nil => rfl
  | cons y r => rw [compactL, key r y h]
theorem compact_length (xs : List Lit) : (compactL xs).length ≤ xs.length := by
  have key : ∀ (r : List Lit) (y : Lit), (dedL y r).length ≤ r.length := by
    intro r
    induction r with
    | nil => intro _; simp [dedL]
    | cons x r ih =>
      intro y
      rw [dedL]
      split
      · have := ih y; simp; omega
      · have := ih x; simp; omega
  cases xs with
  | nil => simp [compactL]
  | cons y r => have := key r y; simp [compactL]; omega
end Go.Proofs.YtglhbaigigdeeaaGreat
/- The reference and the program compare terms: both tell whether the two trees are one. -/
namespace Go.Proofs.YtglhbaigigdeeaaGreat
set_option maxRecDepth 100000
open Go.RowKit

/-- f tells whether two terms are one -/
def Tells (f : FuncId) (t : Tm) : Prop := ∀ (u : Tm) (S : Nat → Prop) (c0 c1 d0 d1 : Value) (w : World), Tm.at S w c0 c1 t → Tm.at S w d0 d1 u → Calls Tryz.prog f #[.agg #[c0, c1], .agg #[d0, d1]] w fun e w' => e = .returned (.bool (Tm.eqb t u)) ∧ Below w.heap.size w w'

theorem Tm.eqb_name {n m : ByteArray} {ts us : List Tm} (h : n ≠ m) : Tm.eqb (.node n ts) (.node m us) = false := by simp [Tm.eqb, h]
theorem Tm.eqb_args (n : ByteArray) (ts us : List Tm) : Tm.eqb (.node n ts) (.node n us) = Tm.eqbs ts us := by simp [Tm.eqb]

set_option maxHeartbeats 400000 in
theorem l2Same_of (n : ByteArray) (ts : List Tm) (h : ∀ t ∈ ts, Tells 121 t) : Tells 121 (.node n ts) := by
  intro u S c0 c1 d0 d1 w hr hr'
  obtain ⟨m, us⟩ := u
  obtain ⟨rfl, hn, -⟩ := Tm.at_form hr
  obtain ⟨rfl, hm, -⟩ := Tm.at_form hr'
  have hs := hr.2
  have hs' := hr'.2
  simp only [Tm.name, Tm.args] at hs hs' hn hm ⊢
  clear hr hr'
  obtain ⟨a, cap, rfl, hlen, hcap⟩ := Tm.sd_form hs
  obtain ⟨a', cap', rfl, hlen', hcap'⟩ := Tm.sd_form hs'
  unfold big at hlen hlen'
  by_cases hnm : n = m
  · subst hnm
    have HN := hid (Tm.eqb_args n ts us)
    by_cases hll : ts.length = us.length
    · rw [← hll] at hs' hlen' hcap' ⊢
      have HL := hid hll
      clear hll
      go_enter Tryz.func121, Tryz.ntmps121
      go_wp2_with fail
      go_loopw [5] (fun i wr => ∃ (k : Nat), k ≤ ts.length ∧ i = .int .i64 k ∧ Hid (ts.take k = us.take k) ∧ Below (w.heap.size + 1 + 1) ((w.alloc (.cells #[.string n, .slice a ts.length cap] 56)).alloc (.cells #[.string n, .slice a' ts.length cap'] 56)) wr) (fun i _ => ts.length - (intOf i).toNat)
      case atStart => exact ⟨0, Nat.zero_le _, rfl, by simp [Hid], Below.refl _ _⟩
      case round =>
        obtain ⟨k, hk, rfl, HX, hb⟩ := hrel
        have hbw : Below w.heap.size w wr := (((Below.refl _ _).alloc (Nat.le_refl _) _).alloc (by simp) _).trans (hb.mono (by omega))
        have hz := hb.size
        simp only [World.size_alloc] at hz
        have e20 : wr.cell? ⟨w.heap.size, 0, none⟩ = some (.string n) := (hb.cell (by simp; omega)).trans (box2 _ _ _ _ _ _).1
        have e21 : wr.cell? ⟨w.heap.size, 1, none⟩ = some (.slice a ts.length cap) := (hb.cell (by simp; omega)).trans (box2 _ _ _ _ _ _).1
        have e31 : wr.cell? ⟨w.heap.size + 1, 1, none⟩ = some (.slice a' ts.length cap') := (hb.cell (by simp)).trans (box2 _ _ _ _ _ _).2
        by_cases hlt : k < ts.length
        · have hne : ts ≠ [] := by intro e; subst e; simp at hlt
          have hlt' : k < us.length := by rw [← HL.out]; exact hlt
          have hne' : us ≠ [] := by intro e; subst e; simp at hlt'
          obtain ⟨b, off, rfl, hS, hbl, hrr⟩ := Tm.sd_get hs hne
          obtain ⟨b', off', rfl, hS', hbl', hrr'⟩ := Tm.sd_get hs' hne'
          obtain ⟨c0, c1, q0, q1, q2⟩ := hrr k hlt
          obtain ⟨d0, d1, r0, r1, r2⟩ := hrr' k hlt'
          replace q0 := (hbw.cell (p := ⟨b, off + k * 2, none⟩) hbl).trans q0
          replace q1 := (hbw.cell (p := ⟨b, off + k * 2 + 1, none⟩) hbl).trans q1
          replace q2 := Tm.at_keep (Keeps.all hbw) q2
          replace r0 := (hbw.cell (p := ⟨b', off' + k * 2, none⟩) hbl').trans r0
          replace r1 := (hbw.cell (p := ⟨b', off' + k * 2 + 1, none⟩) hbl').trans r1
          replace r2 := Tm.at_keep (Keeps.all hbw) r2
          have hmem := h ts[k] (List.getElem_mem hlt)
          clear hs hrr hs' hrr'
          have hb0 : b < wr.heap.size := by omega
          have hb0' : b' < wr.heap.size := by omega
          have hz0 : w.heap.size < wr.heap.size := by omega
          have hz1 : w.heap.size + 1 < wr.heap.size := by omega
          go_wp2_with fail
          refine wp_region_B [fun v _ => v = .pointer (some ⟨w.heap.size, 1, none⟩), fun v _ => v = .slice (some ⟨b, off, none⟩) ts.length cap, fun v _ => v = .int .i64 k, fun v _ => v = .pointer (some ⟨b, off + k * 2, none⟩), fun v _ => v = .agg #[c0, c1], fun v _ => v = .pointer (some ⟨w.heap.size + 1, 1, none⟩), fun v _ => v = .slice (some ⟨b', off', none⟩) ts.length cap', fun v _ => v = .int .i64 k, fun v _ => v = .pointer (some ⟨b', off' + k * 2, none⟩), fun v _ => v = .agg #[d0, d1], fun v _ => v = .bool (Tm.eqb ts[k] us[k]), fun v _ => v = .bool (!Tm.eqb ts[k] us[k])] _ (fun V => by simp [putAll, Act.put]; rfl) (by kernel_rfl) (by decide) (by simp) (by kernel_rfl) ?_ ?_ ?_
          · intro F hF
            simp only [List.mem_cons, List.not_mem_nil, or_false] at hF
            rcases hF with rfl | rfl | rfl | rfl | rfl | rfl | rfl | rfl | rfl | rfl | rfl | rfl
            · exact stable_eq
            · exact stable_eq
            · exact stable_eq
            · exact stable_eq
            · exact stable_eq
            · exact stable_eq
            · exact stable_eq
            · exact stable_eq
            · exact stable_eq
            · exact stable_eq
            · exact stable_eq
            · exact stable_eq
          · refine ⟨?_, ?_, ?_, ?_, ?_, ?_, ?_, ?_, ?_, ?_, ?_, ?_, trivial⟩
            · intro V w1 hbR _
              unfold Does
              go_simp
              exact ⟨Below.refl _ _, rfl⟩
            · intro V w1 hbR ⟨f0, _⟩
              replace f0 : V 0 = .pointer (some ⟨w.heap.size, 1, none⟩) := f0
              obtain ⟨hc, hf⟩ := bcell hbR
              try simp only [World.size_alloc, World.size_setCell] at hc hf
              unfold Does
              go_simp
              exact ⟨Below.refl _ _, rfl⟩
            · intro V w1 hbR _
              unfold Does
              go_simp
              exact ⟨Below.refl _ _, rfl⟩
            · intro V w1 hbR ⟨f1, f2, _⟩
              replace f1 : V 1 = .slice (some ⟨b, off, none⟩) ts.length cap := f1
              replace f2 : V 2 = .int .i64 k := f2
              unfold Does
              go_simp
              exact ⟨Below.refl _ _, rfl⟩
            · intro V w1 hbR ⟨f3, _⟩
              replace f3 : V 3 = .pointer (some ⟨b, off + k * 2, none⟩) := f3
              obtain ⟨hc, hf⟩ := bcell hbR
              try simp only [World.size_alloc, World.size_setCell] at hc hf
              unfold Does
              go_simp
              exact ⟨Below.refl _ _, rfl⟩
            · intro V w1 hbR _
              unfold Does
              go_simp
              exact ⟨Below.refl _ _, rfl⟩
            · intro V w1 hbR ⟨f5, _⟩
              replace f5 : V 5 = .pointer (some ⟨w.heap.size + 1, 1, none⟩) := f5
              obtain ⟨hc, hf⟩ := bcell hbR
              try simp only [World.size_alloc, World.size_setCell] at hc hf
              unfold Does
              go_simp
              exact ⟨Below.refl _ _, rfl⟩
            · intro V w1 hbR _
              unfold Does
              go_simp
              exact ⟨Below.refl _ _, rfl⟩
            · intro V w1 hbR ⟨f6, f7, _⟩
              replace f6 : V 6 = .slice (some ⟨b', off', none⟩) ts.length cap' := f6
              replace f7 : V 7 = .int .i64 k := f7
              unfold Does
              go_simp
              exact ⟨Below.refl _ _, rfl⟩
            · intro V w1 hbR ⟨f8, _⟩
              replace f8 : V 8 = .pointer (some ⟨b', off' + k * 2, none⟩) := f8
              obtain ⟨hc, hf⟩ := bcell hbR
              try simp only [World.size_alloc, World.size_setCell] at hc hf
              unfold Does
              go_simp
              exact ⟨Below.refl _ _, rfl⟩
            · intro V w1 hbR ⟨f4, f9, _⟩
              replace f4 : V 4 = .agg #[c0, c1] := f4
              replace f9 : V 9 = .agg #[d0, d1] := f9
              obtain ⟨hc, hf⟩ := bcell hbR
              try simp only [World.size_alloc, World.size_setCell] at hc hf
              unfold Does
              go_simp
              refine (hmem _ _ _ _ _ _ _ (Tm.at_keep (Keeps.all hbR) q2) (Tm.at_keep (Keeps.all hbR) r2)).mono ?_; rintro e w2 ⟨rfl, hb2⟩; exact ⟨_, rfl, hb2, rfl⟩
            · intro V w1 hbR ⟨f10, _⟩
              replace f10 : V 10 = .bool (Tm.eqb ts[k] us[k]) := f10
              unfold Does
              go_simp
              exact ⟨Below.refl _ _, rfl⟩
          intro V w1 hbR hfR
          obtain ⟨f0, f1, f2, f3, f4, f5, f6, f7, f8, f9, f10, f11, _⟩ := hfR
          replace f0 : V 0 = .pointer (some ⟨w.heap.size, 1, none⟩) := f0
          replace f1 : V 1 = .slice (some ⟨b, off, none⟩) ts.length cap := f1
          replace f2 : V 2 = .int .i64 k := f2
          replace f3 : V 3 = .pointer (some ⟨b, off + k * 2, none⟩) := f3
          replace f4 : V 4 = .agg #[c0, c1] := f4
          replace f5 : V 5 = .pointer (some ⟨w.heap.size + 1, 1, none⟩) := f5
          replace f6 : V 6 = .slice (some ⟨b', off', none⟩) ts.length cap' := f6
          replace f7 : V 7 = .int .i64 k := f7
          replace f8 : V 8 = .pointer (some ⟨b', off' + k * 2, none⟩) := f8
          replace f9 : V 9 = .agg #[d0, d1] := f9
          replace f10 : V 10 = .bool (Tm.eqb ts[k] us[k]) := f10
          replace f11 : V 11 = .bool (!Tm.eqb ts[k] us[k]) := f11
          simp only [f0, f1, f2, f3, f4, f5, f6, f7, f8, f9, f10, f11]
          clear f0 f1 f2 f3 f4 f5 f6 f7 f8 f9 f10 f11
          by_cases he : Tm.eqb ts[k] us[k] = true
          · have HZ := hid (Tm.eqbs_take hlt hlt' HX.out he)
            rw [he]
            go_wp2_with fail
            go_roundw
            case rel => exact ⟨k + 1, by omega, by go_num, HZ, hb.trans (hbR.mono hz)⟩
            case measure => simp [intOf]; omega
          · have he' : Tm.eqb ts[k] us[k] = false := by simpa using he
            have HZ := hid (Tm.eqbs_at hlt hlt' he')
            rw [he']
            clear he he'
            go_wp2_with fail
            go_ret
            exact ⟨ret_bool (by rw [HN.out, HZ.out]), hbw.trans (hbR.mono hbw.size)⟩
        · obtain rfl : k = ts.length := by omega
          have HY : Hid (Tm.eqbs ts us = true) := by
            have := HX.out
            rw [List.take_length, HL.out, List.take_length] at this
            rw [Hid, Tm.eqbs_iff]; exact this
          go_wp2_with fail
          go_ret
          exact ⟨ret_bool (by rw [HN.out, HY.out]), hbw⟩
    · have HY := hid (Tm.eqbs_length hll)
      go_enter Tryz.func121, Tryz.ntmps121
      go_wp2_with fail
      go_ret
      exact ⟨ret_bool (by rw [HN.out, HY.out]), ((Below.refl _ _).alloc (Nat.le_refl _) _).alloc (by simp) _⟩
  · have HX := hid (Tm.eqb_name (ts := ts) (us := us) hnm)
    have hne := toList_ne hnm
    go_enter Tryz.func121, Tryz.ntmps121
    go_wp2_with fail
    go_ret
    exact ⟨ret_bool HX.out.symm, ((Below.refl _ _).alloc (Nat.le_refl _) _).alloc (by simp) _⟩

theorem l2Same_any (t : Tm) : Tells 121 t := Tm.ind (fun n ts h => l2Same_of n ts h) t

set_option maxHeartbeats 400000 in
theorem equalFunc_of (ts : List Tm) (h : ∀ t ∈ ts, Tells 85 t) (us : List Tm) (S : Nat → Prop) (v u : Value) (w : World) (hr : D.rd S w v (Tm.sd ts)) (hr' : D.rd S w u (Tm.sd us)) :
    Calls Tryz.prog 120 #[v, u, .func (.func 85) #[] #[]] w fun e w' => e = .returned (.bool (Tm.eqbs ts us)) ∧ Below w.heap.size w w' := by
  obtain ⟨a, cap, rfl, hlen, hcap⟩ := Tm.sd_form hr
  obtain ⟨a', cap', rfl, hlen', hcap'⟩ := Tm.sd_form hr'
  unfold big at hlen hlen'
  by_cases hll : ts.length = us.length
  · rw [← hll] at hr' hlen' hcap' ⊢
    have HL := hid hll
    clear hll
    go_enter Tryz.func120, Tryz.ntmps120
    go_wp2_with fail
    go_loopw [17] (fun i wr => ∃ (k : Nat), k ≤ ts.length ∧ i = .int .i64 k ∧ Hid (ts.take k = us.take k) ∧ Below w.heap.size w wr) (fun i _ => ts.length - (intOf i).toNat)
    case atStart => exact ⟨0, Nat.zero_le _, rfl, by simp [Hid], Below.refl _ _⟩
    case round =>
      obtain ⟨k, hk, rfl, HX, hb⟩ := hrel
      by_cases hlt : k < ts.length
      · have hne : ts ≠ [] := by intro e; subst e; simp at hlt
        have hlt' : k < us.length := by rw [← HL.out]; exact hlt
        have hne' : us ≠ [] := by intro e; subst e; simp at hlt'
        obtain ⟨b, off, rfl, hS, hbl, hrr⟩ := Tm.sd_get hr hne
        obtain ⟨b', off', rfl, hS', hbl', hrr'⟩ := Tm.sd_get hr' hne'
        obtain ⟨c0, c1, q0, q1, q2⟩ := hrr k hlt
        obtain ⟨d0, d1, r0, r1, r2⟩ := hrr' k hlt'
        obtain ⟨rfl, -, x, xc, rfl⟩ := Tm.at_form q2
        obtain ⟨rfl, -, y, yc, rfl⟩ := Tm.at_form r2
        replace q0 := (hb.cell (p := ⟨b, off + k * 2, none⟩) hbl).trans q0
        replace q1 := (hb.cell (p := ⟨b, off + k * 2 + 1, none⟩) hbl).trans q1
        replace q2 := Tm.at_keep (Keeps.all hb) q2
        replace r0 := (hb.cell (p := ⟨b', off' + k * 2, none⟩) hbl').trans r0
        replace r1 := (hb.cell (p := ⟨b', off' + k * 2 + 1, none⟩) hbl').trans r1
        replace r2 := Tm.at_keep (Keeps.all hb) r2
        have r0' := cell_alloc r0
        have r1' := cell_alloc r1
        have hmem := h ts[k] (List.getElem_mem hlt)
        clear hr hrr hr' hrr'
        go_wp2_with fail
        have hbx : Below wr.heap.size wr ((wr.alloc (.cells #[.string ts[k].name, .slice x ts[k].args.length xc] 56)).alloc (.cells #[.string us[k].name, .slice y us[k].args.length yc] 56)) := ((Below.refl _ _).alloc (Nat.le_refl _) _).alloc (by simp) _
        refine (hmem _ _ _ _ _ _ _ (Tm.at_keep (Keeps.all hbx) q2) (Tm.at_keep (Keeps.all hbx) r2)).mono ?_
        rintro e w2 ⟨rfl, hb2⟩
        have hb3 : Below w.heap.size w w2 := hb.trans ((hbx.trans (hb2.mono hbx.size)).mono hb.size)
        clear hbx hb2
        by_cases he : Tm.eqb ts[k] us[k] = true
        · have HZ := hid (Tm.eqbs_take hlt hlt' HX.out he)
          rw [he]
          go_wp2_with fail
          go_roundw
          case rel => exact ⟨k + 1, by omega, by go_num, HZ, hb3⟩
          case measure => simp [intOf]; omega
        · have he' : Tm.eqb ts[k] us[k] = false := by simpa using he
          have HZ := hid (Tm.eqbs_at hlt hlt' he')
          rw [he']
          clear he he'
          go_wp2_with fail
          go_ret
          exact ⟨ret_bool HZ.out.symm, hb3⟩
      · obtain rfl : k = ts.length := by omega
        have HY : Hid (Tm.eqbs ts us = true) := by
          have := HX.out
          rw [List.take_length, HL.out, List.take_length] at this
          rw [Hid, Tm.eqbs_iff]; exact this
        go_wp2_with fail
        go_ret
        exact ⟨ret_bool HY.out.symm, hb⟩
  · have HY := hid (Tm.eqbs_length hll)
    go_enter Tryz.func120, Tryz.ntmps120
    go_wp2_with fail
    go_ret
    exact ⟨ret_bool HY.out.symm, Below.refl _ _⟩

set_option maxHeartbeats 400000 in
theorem equalTerms_of (n : ByteArray) (ts : List Tm) (h : ∀ t ∈ ts, Tells 85 t) : Tells 85 (.node n ts) := by
  intro u S c0 c1 d0 d1 w hr hr'
  obtain ⟨m, us⟩ := u
  obtain ⟨rfl, hn, -⟩ := Tm.at_form hr
  obtain ⟨rfl, hm, -⟩ := Tm.at_form hr'
  have hs := hr.2
  have hs' := hr'.2
  simp only [Tm.name, Tm.args] at hs hs' hn hm ⊢
  clear hr hr'
  have hbx : Below w.heap.size w ((w.alloc (.cells #[.string n, c1] 56)).alloc (.cells #[.string m, d1] 56)) := ((Below.refl _ _).alloc (Nat.le_refl _) _).alloc (by simp) _
  by_cases hnm : n = m
  · subst hnm
    have HN := hid (Tm.eqb_args n ts us)
    have hbq := (beq_self_eq_true n.toList)
    go_enter Tryz.func85, Tryz.ntmps85
    go_wp2_with fail
    refine (equalFunc_of ts h us S _ _ _ (D.rd_below hbx hs) (D.rd_below hbx hs')).mono ?_
    rintro e w2 ⟨rfl, hb2⟩
    have hb3 : Below w.heap.size w w2 := hbx.trans (hb2.mono hbx.size)
    clear hbx hb2
    go_wp2_with fail
    go_ret
    exact ⟨ret_bool (by rw [HN.out]), hb3⟩
  · have HX := hid (Tm.eqb_name (ts := ts) (us := us) hnm)
    have hne := toList_ne hnm
    go_enter Tryz.func85, Tryz.ntmps85
    go_wp2_with fail
    go_ret
    exact ⟨ret_bool HX.out.symm, hbx⟩
theorem equalTerms_any (t : Tm) : Tells 85 t := Tm.ind (fun n ts h => equalTerms_of n ts h) t

theorem impl_EqualTerms {t u : Tm} {S : Nat → Prop} {c0 c1 d0 d1 : Value} {w : World} (h : Tm.at S w c0 c1 t) (_ : t.bulk ≤ 1048576) (k : Tm.at S w d0 d1 u) (_ : u.bulk ≤ 1048576) :
    Calls Tryz.prog 85 #[.agg #[c0, c1], .agg #[d0, d1]] w (Gives w (.bool (Tm.eqb t u))) :=
  (equalTerms_any t u S c0 c1 d0 d1 w h k).mono fun _ _ ⟨he, hb⟩ => Gives.mk he hb
end Go.Proofs.YtglhbaigigdeeaaGreat
