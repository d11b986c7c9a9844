/- Several texts in one file. -/
import Derived.Test.YtooocakkjdhfiaaGreatDoorQ09
import Derived.Test.YtooocakkjdhfiaaGreatDoorQ10
/- The order of terms and of literals is a strict order, and nothing but itself is equal: plain. -/
namespace Go.Proofs.YtooocakkjdhfiaaGreatDoor
set_option maxRecDepth 100000
open Go.RowKit

theorem bl_total' {x y : List UInt8} (h : Op.bytesLess x y = false) (hn : x ≠ y) : Op.bytesLess y x = true := by
  have := bl_ge h
  rw [Bool.or_eq_true] at this
  rcases this with q | q
  · exact q
  · exact absurd (beq_iff_eq.1 q).symm hn
theorem toList_inj' {a b : ByteArray} (h : a.toList = b.toList) : a = b := Classical.byContradiction fun hn => by
  have := toList_ne hn
  rw [h] at this; simp at this
/-- x against y, y against z, x against z -/
def Tri (a b c : Int) : Prop := a ≤ 0 → b ≤ 0 → c ≤ 0 ∧ (c = 0 ↔ (a = 0 ∧ b = 0))
theorem Tri.or {a b c x y z : Int} (h : Tri a b c) (k : a = 0 → b = 0 → Tri x y z) : Tri (orZ a x) (orZ b y) (orZ c z) := by
  unfold Tri orZ at *
  intro h1 h2
  by_cases ha : a = 0
  · rw [if_pos ha] at h1
    by_cases hb : b = 0
    · rw [if_pos hb] at h2
      have h0 := h (by omega) (by omega)
      rw [if_pos ha, if_pos hb, if_pos (h0.2.2 ⟨ha, hb⟩)]
      exact k ha hb h1 h2
    · rw [if_neg hb] at h2
      have h0 := h (by omega) h2
      have hc : c ≠ 0 := fun e => hb (h0.2.1 e).2
      rw [if_neg hc, if_neg hb]
      exact ⟨h0.1, fun e => absurd e hc, fun e => absurd e.2 hb⟩
  · rw [if_neg ha] at h1
    have h2' : b ≤ 0 := by
      by_cases hb : b = 0
      · omega
      · rw [if_neg hb] at h2; exact h2
    have h0 := h h1 h2'
    have hc : c ≠ 0 := fun e => ha (h0.2.1 e).1
    rw [if_neg hc, if_neg ha]
    exact ⟨h0.1, fun e => absurd e hc, fun e => absurd e.1 ha⟩
theorem strCmp_zero {a b : ByteArray} (h : strCmp a b = 0) : a = b := Classical.byContradiction fun hn => strCmp_ne hn h
theorem strCmp_anti (a b : ByteArray) : strCmp b a = - strCmp a b := by
  by_cases h : a = b
  · subst h; rw [strCmp_self]; rfl
  · by_cases hl : Op.bytesLess a.toList b.toList = true
    · have hr : Op.bytesLess b.toList a.toList = false := by
        rw [Bool.eq_false_iff]; intro e
        have := blt_trans hl e
        rw [bl_irrefl] at this; cases this
      unfold strCmp
      rw [hl, hr, if_neg (by decide), if_neg (Ne.symm h), if_pos rfl]; rfl
    · have hr := bl_total' (Bool.eq_false_iff.2 hl) (fun e => h (toList_inj' e))
      unfold strCmp
      rw [hr, Bool.eq_false_iff.2 hl, if_pos rfl, if_neg (by decide), if_neg h]
theorem strCmp_tri (x y z : ByteArray) : Tri (strCmp x y) (strCmp y z) (strCmp x z) := by
  intro h1 h2
  by_cases e1 : x = y
  · subst e1
    exact ⟨h2, fun e => ⟨strCmp_self _, e⟩, fun e => e.2⟩
  · by_cases e2 : y = z
    · subst e2
      exact ⟨h1, fun e => ⟨e, strCmp_self _⟩, fun e => e.1⟩
    · have l1 := (strCmp_lt x y).1 (by have := strCmp_ne e1; omega)
      have l2 := (strCmp_lt y z).1 (by have := strCmp_ne e2; omega)
      have l3 := (strCmp_lt x z).2 (blt_trans l1 l2)
      exact ⟨by omega, fun e => absurd e (by omega), fun e => absurd e.1 (strCmp_ne e1)⟩
theorem numCmp_anti (a b : Int) : numCmp b a = - numCmp a b := by
  unfold numCmp
  by_cases h1 : a < b
  · rw [if_pos h1, if_neg (by omega), if_pos h1]; rfl
  · by_cases h2 : b < a
    · rw [if_pos h2, if_neg h1, if_pos h2]
    · rw [if_neg h2, if_neg h1, if_neg h1, if_neg h2]; rfl
theorem numCmp_zero {a b : Int} (h : numCmp a b = 0) : a = b := by
  unfold numCmp at h
  split at h
  · cases h
  · split at h
    · cases h
    · omega
theorem numCmp_self (a : Int) : numCmp a a = 0 := by unfold numCmp; rw [if_neg (by omega), if_neg (by omega)]
theorem numCmp_neg {a b : Int} : numCmp a b < 0 ↔ a < b := by
  unfold numCmp
  split
  · rename_i h; exact ⟨fun _ => h, fun _ => by decide⟩
  · rename_i h
    split
    · exact ⟨fun e => absurd e (by decide), fun e => absurd e h⟩
    · exact ⟨fun e => absurd e (by decide), fun e => absurd e h⟩
theorem numCmp_tri (x y z : Int) : Tri (numCmp x y) (numCmp y z) (numCmp x z) := by
  intro h1 h2
  have k1 : x ≤ y := by
    by_cases e : numCmp x y = 0
    · have := numCmp_zero e; omega
    · have := numCmp_neg.1 (show numCmp x y < 0 by omega); omega
  have k2 : y ≤ z := by
    by_cases e : numCmp y z = 0
    · have := numCmp_zero e; omega
    · have := numCmp_neg.1 (show numCmp y z < 0 by omega); omega
  refine ⟨?_, fun e => ?_, fun e => ?_⟩
  · by_cases e : x < z
    · have := numCmp_neg.2 e; omega
    · have : x = z := by omega
      subst this; rw [numCmp_self]; decide
  · have := numCmp_zero e
    have e1 : x = y := by omega
    have e2 : y = z := by omega
    subst e1 e2
    exact ⟨numCmp_self _, numCmp_self _⟩
  · have e1 := numCmp_zero e.1
    have e2 := numCmp_zero e.2
    subst e1 e2; exact numCmp_self _
/-- variables come first -/
def flCmp (n m : ByteArray) : Int := if (varName n && !varName m) = true then -1 else if (varName m && !varName n) = true then 1 else 0
theorem flCmp_anti (n m : ByteArray) : flCmp m n = - flCmp n m := by
  unfold flCmp
  cases varName n <;> cases varName m <;> rfl
theorem flCmp_tri (n m k : ByteArray) : Tri (flCmp n m) (flCmp m k) (flCmp n k) := by
  unfold flCmp Tri
  cases varName n <;> cases varName m <;> cases varName k <;> simp
theorem flCmp_self (n : ByteArray) : flCmp n n = 0 := by
  unfold flCmp
  cases varName n <;> rfl
theorem Tm.cmp_or (t u : Tm) : Tm.cmp t u = orZ (flCmp t.name u.name) (orZ (strCmp t.name u.name) (orZ (numCmp t.args.length u.args.length) (Tm.cmps t.args u.args))) := by
  rw [Tm.cmp_eq, flCmp]
  split
  · rfl
  · split
    · rfl
    · rfl
theorem orZ_zero {x y : Int} (h : orZ x y = 0) : x = 0 ∧ y = 0 := by
  unfold orZ at h
  split at h
  · rename_i e; exact ⟨e, h⟩
  · rename_i e; exact absurd h e
theorem orZ_neg (x y : Int) : orZ (-x) (-y) = - orZ x y := by
  unfold orZ
  by_cases h : x = 0
  · rw [if_pos h, if_pos (by omega)]
  · rw [if_neg h, if_neg (by omega)]
theorem Tm.cmps_anti : ∀ (ts us : List Tm), (∀ t ∈ ts, ∀ u, Tm.cmp u t = - Tm.cmp t u) → Tm.cmps us ts = - Tm.cmps ts us
  | [], us, _ => by cases us <;> simp [Tm.cmps]
  | _ :: _, [], _ => by simp [Tm.cmps]
  | t :: ts, u :: us, h => by
    rw [Tm.cmps, Tm.cmps, h t (by simp) u, Tm.cmps_anti ts us fun a ha => h a (by simp [ha]), orZ_neg]
theorem Tm.cmp_anti (t : Tm) : ∀ u, Tm.cmp u t = - Tm.cmp t u := by
  refine Tm.ind (P := fun t => ∀ u, Tm.cmp u t = - Tm.cmp t u) (fun n ts ih u => ?_) t
  obtain ⟨m, us⟩ := u
  rw [Tm.cmp_or, Tm.cmp_or, flCmp_anti, strCmp_anti, numCmp_anti]
  simp only [Tm.name, Tm.args]
  rw [Tm.cmps_anti ts us ih, orZ_neg, orZ_neg, orZ_neg]
theorem Tm.cmps_zero : ∀ (ts us : List Tm), ts.length = us.length → (∀ t ∈ ts, ∀ u, Tm.cmp t u = 0 → t = u) → Tm.cmps ts us = 0 → ts = us
  | [], [], _, _, _ => rfl
  | [], _ :: _, h, _, _ => by simp at h
  | _ :: _, [], h, _, _ => by simp at h
  | t :: ts, u :: us, hl, h, e => by
    rw [Tm.cmps] at e
    obtain ⟨e1, e2⟩ := orZ_zero e
    rw [h t (by simp) u e1, Tm.cmps_zero ts us (by simpa using hl) (fun a ha => h a (by simp [ha])) e2]
theorem Tm.cmp_zero (t : Tm) : ∀ u, Tm.cmp t u = 0 → t = u := by
  refine Tm.ind (P := fun t => ∀ u, Tm.cmp t u = 0 → t = u) (fun n ts ih u h => ?_) t
  obtain ⟨m, us⟩ := u
  rw [Tm.cmp_or] at h
  simp only [Tm.name, Tm.args] at h
  obtain ⟨-, h⟩ := orZ_zero h
  obtain ⟨h1, h⟩ := orZ_zero h
  obtain ⟨h2, h⟩ := orZ_zero h
  have hl : ts.length = us.length := by have := numCmp_zero h2; omega
  rw [strCmp_zero h1, Tm.cmps_zero ts us hl ih h]
theorem Tm.cmps_self : ∀ (ts : List Tm), (∀ t ∈ ts, Tm.cmp t t = 0) → Tm.cmps ts ts = 0
  | [], _ => by simp [Tm.cmps]
  | t :: ts, h => by rw [Tm.cmps, h t (by simp), orZ, if_pos rfl, Tm.cmps_self ts fun a ha => h a (by simp [ha])]
theorem Tm.cmp_self (t : Tm) : Tm.cmp t t = 0 := by
  refine Tm.ind (P := fun t => Tm.cmp t t = 0) (fun n ts ih => ?_) t
  rw [Tm.cmp_or]
  simp only [Tm.name, Tm.args]
  rw [flCmp_self, strCmp_self, numCmp_self, Tm.cmps_self ts ih]; rfl
theorem Tm.cmps_tri : ∀ (ts us vs : List Tm), ts.length = us.length → us.length = vs.length → (∀ t ∈ ts, ∀ u v, Tri (Tm.cmp t u) (Tm.cmp u v) (Tm.cmp t v)) → Tri (Tm.cmps ts us) (Tm.cmps us vs) (Tm.cmps ts vs)
  | [], us, vs, h1, h2, _ => by
    cases us with
    | nil => intro _ _; simp [Tm.cmps]
    | cons u us => simp at h1
  | t :: ts, [], vs, h1, _, _ => by simp at h1
  | t :: ts, u :: us, [], _, h2, _ => by simp at h2
  | t :: ts, u :: us, v :: vs, h1, h2, h => by
    rw [Tm.cmps, Tm.cmps, Tm.cmps]
    exact (h t (by simp) u v).or fun _ _ => Tm.cmps_tri ts us vs (by simpa using h1) (by simpa using h2) fun a ha => h a (by simp [ha])
theorem Tm.cmp_tri (t : Tm) : ∀ u v, Tri (Tm.cmp t u) (Tm.cmp u v) (Tm.cmp t v) := by
  refine Tm.ind (P := fun t => ∀ u v, Tri (Tm.cmp t u) (Tm.cmp u v) (Tm.cmp t v)) (fun n ts ih u v => ?_) t
  obtain ⟨m, us⟩ := u
  obtain ⟨k, vs⟩ := v
  rw [Tm.cmp_or, Tm.cmp_or (.node m us), Tm.cmp_or (.node n ts) (.node k vs)]
  refine (flCmp_tri _ _ _).or fun _ _ => (strCmp_tri _ _ _).or fun _ _ => (numCmp_tri _ _ _).or fun e1 e2 => ?_
  have h1 := numCmp_zero e1
  have h2 := numCmp_zero e2
  simp only [Tm.args] at *
  exact Tm.cmps_tri ts us vs (by omega) (by omega) ih
theorem flagI_inj {p q : Bool} (h : flagI p = flagI q) : p = q := by cases p <;> cases q <;> simp [flagI] at h <;> rfl
theorem Lit.cmp_anti (x y : Lit) : Lit.cmp y x = - Lit.cmp x y := by rw [Lit.cmp, Lit.cmp, Tm.cmp_anti, numCmp_anti, orZ_neg]
theorem Lit.cmp_zero {x y : Lit} (h : Lit.cmp x y = 0) : x = y := by
  obtain ⟨h1, h2⟩ := orZ_zero h
  obtain ⟨p, t⟩ := x
  obtain ⟨q, u⟩ := y
  have e1 := Tm.cmp_zero _ _ h1
  have e2 := flagI_inj (numCmp_zero h2)
  simp only at e1 e2
  rw [e1, e2]
theorem Lit.cmp_self (x : Lit) : Lit.cmp x x = 0 := by rw [Lit.cmp, Tm.cmp_self, numCmp_self]; rfl
theorem Lit.cmp_tri (x y z : Lit) : Tri (Lit.cmp x y) (Lit.cmp y z) (Lit.cmp x z) := (Tm.cmp_tri _ _ _).or fun _ _ => numCmp_tri _ _ _
theorem Lit.lt_trans {x y z : Lit} (h : Lit.cmp x y < 0) (k : Lit.cmp y z < 0) : Lit.cmp x z < 0 := by
  obtain ⟨h0, h1⟩ := Lit.cmp_tri x y z (by omega) (by omega)
  have : Lit.cmp x z ≠ 0 := fun e => by have := (h1.1 e).1; omega
  omega
theorem Lit.lt_ntrans {x y z : Lit} (h : ¬ Lit.cmp x y < 0) (k : ¬ Lit.cmp y z < 0) : ¬ Lit.cmp x z < 0 := by
  have a1 := Lit.cmp_anti x y
  have a2 := Lit.cmp_anti y z
  have a3 := Lit.cmp_anti x z
  have := (Lit.cmp_tri z y x (by omega) (by omega)).1
  omega
theorem Lit.cmp_ne {x y : Lit} (h : Lit.cmp x y ≠ 0) (k : ¬ Lit.cmp x y < 0) : Lit.cmp y x < 0 := by have := Lit.cmp_anti x y; omega

/-- strictly ascending -/
def AscL (l : List Lit) : Prop := l.Pairwise fun a b => Lit.cmp a b < 0
/-- a literal is put at its place, if it is not there -/
def insL (s : List Lit) (x : Lit) : List Lit :=
  match s.dropWhile (fun y => decide (Lit.cmp y x < 0)) with
  | [] => s.takeWhile (fun y => decide (Lit.cmp y x < 0)) ++ [x]
  | y :: r => if Lit.cmp y x = 0 then s else s.takeWhile (fun y => decide (Lit.cmp y x < 0)) ++ x :: y :: r
/-- sorted and without duplicates -/
def makeL (l : List Lit) : List Lit := l.foldl insL []
theorem makeL_snoc (l : List Lit) (k : Nat) (h : k < l.length) : makeL (l.take (k + 1)) = insL (makeL (l.take k)) l[k] := by
  rw [makeL, List.take_succ_eq_append_getElem h, List.foldl_append]; rfl
theorem insL_mem (s : List Lit) (x a : Lit) : a ∈ insL s x ↔ a ∈ s ∨ a = x := by
  have hs := List.takeWhile_append_dropWhile (p := fun y => decide (Lit.cmp y x < 0)) (l := s)
  rw [insL]
  split
  · rename_i e
    rw [e, List.append_nil] at hs
    rw [hs]; simp
  · rename_i y r e
    split
    · rename_i h0
      have hx := Lit.cmp_zero h0
      subst hx
      constructor
      · exact .inl
      · rintro (h | h)
        · exact h
        · subst h; rw [← hs, e]; simp
    · rw [e] at hs
      conv => rhs; rw [← hs]
      simp only [List.mem_append, List.mem_cons]
      constructor
      · rintro (h | h | h | h) <;> simp [h]
      · rintro ((h | h | h) | h) <;> simp [h]
theorem takeW_mem {α : Type} {p : α → Bool} : ∀ {l : List α} {x : α}, x ∈ l.takeWhile p → p x = true
  | [], _, h => by simp at h
  | a :: l, x, h => by
    rw [List.takeWhile_cons] at h
    split at h
    · rename_i ha
      rcases List.mem_cons.1 h with rfl | h
      · exact ha
      · exact takeW_mem h
    · simp at h
theorem dropW_head {α : Type} {p : α → Bool} : ∀ {l : List α} {y : α} {r : List α}, l.dropWhile p = y :: r → p y = false
  | [], _, _, h => by simp at h
  | a :: l, y, r, h => by
    rw [List.dropWhile_cons] at h
    split at h
    · exact dropW_head h
    · rename_i ha
      injection h with h1 h2
      subst h1; simpa using ha
theorem insL_asc {s : List Lit} {x : Lit} (h : AscL s) : AscL (insL s x) := by
  have hs := List.takeWhile_append_dropWhile (p := fun y => decide (Lit.cmp y x < 0)) (l := s)
  have ht : ∀ a ∈ s.takeWhile (fun y => decide (Lit.cmp y x < 0)), Lit.cmp a x < 0 := fun a ha => by have := takeW_mem ha; simpa using this
  rw [insL]
  split
  · rename_i e
    rw [e, List.append_nil] at hs
    rw [AscL, List.pairwise_append, hs]
    refine ⟨h, by simp, fun a ha b hb => ?_⟩
    rw [List.mem_singleton] at hb
    subst hb
    exact ht a (by rw [hs]; exact ha)
  · rename_i y r e
    split
    · exact h
    · rename_i h0
      have hy : ¬ Lit.cmp y x < 0 := by have := dropW_head e; simpa using this
      have hxy := Lit.cmp_ne h0 hy
      have hsub : AscL (s.takeWhile (fun y => decide (Lit.cmp y x < 0))) := h.sublist (List.takeWhile_sublist _)
      have hdrop : AscL (y :: r) := by rw [← e]; exact h.sublist (List.dropWhile_sublist _)
      have hr : ∀ b ∈ y :: r, Lit.cmp x b < 0 := fun b hb => by
        rcases List.mem_cons.1 hb with rfl | hb
        · exact hxy
        · rw [AscL, List.pairwise_cons] at hdrop
          exact Lit.lt_trans hxy (hdrop.1 b hb)
      rw [AscL, List.pairwise_append]
      refine ⟨hsub, List.pairwise_cons.2 ⟨hr, hdrop⟩, fun a ha b hb => ?_⟩
      rcases List.mem_cons.1 hb with rfl | hb
      · exact ht a ha
      · exact Lit.lt_trans (ht a ha) (hr b hb)
theorem foldl_ins (l : List Lit) : ∀ s, AscL s → AscL (l.foldl insL s) ∧ ∀ a, a ∈ l.foldl insL s ↔ a ∈ s ∨ a ∈ l := by
  induction l with
  | nil => intro s hs; exact ⟨hs, fun a => by simp⟩
  | cons x l ih =>
    intro s hs
    rw [List.foldl_cons]
    obtain ⟨h1, h2⟩ := ih _ (insL_asc (x := x) hs)
    refine ⟨h1, fun a => ?_⟩
    rw [h2, insL_mem, List.mem_cons, or_assoc]
theorem makeL_asc (l : List Lit) : AscL (makeL l) := (foldl_ins l [] List.Pairwise.nil).1
theorem makeL_mem (l : List Lit) (a : Lit) : a ∈ makeL l ↔ a ∈ l := by
  rw [makeL, (foldl_ins l [] List.Pairwise.nil).2]; simp
theorem asc_one : ∀ {l k : List Lit}, AscL l → AscL k → (∀ a, a ∈ l ↔ a ∈ k) → l = k
  | [], [], _, _, _ => rfl
  | [], b :: k, _, _, h => absurd ((h b).2 (by simp)) (by simp)
  | a :: l, [], _, _, h => absurd ((h a).1 (by simp)) (by simp)
  | a :: l, b :: k, hl, hk, h => by
    rw [AscL, List.pairwise_cons] at hl hk
    have hself : ∀ x, ¬ Lit.cmp x x < 0 := fun x => by rw [Lit.cmp_self]; decide
    have hab : a = b := by
      rcases List.mem_cons.1 ((h a).1 (by simp)) with e | e
      · exact e
      · rcases List.mem_cons.1 ((h b).2 (by simp)) with e' | e'
        · exact e'.symm
        · exact absurd (Lit.lt_trans (hl.1 b e') (hk.1 a e)) (hself a)
    subst hab
    rw [asc_one hl.2 hk.2 fun c => ?_]
    constructor
    · intro hc
      rcases List.mem_cons.1 ((h c).1 (by simp [hc])) with e | e
      · subst e; exact absurd (hl.1 c hc) (hself c)
      · exact e
    · intro hc
      rcases List.mem_cons.1 ((h c).2 (by simp [hc])) with e | e
      · subst e; exact absurd (hk.1 c hc) (hself c)
      · exact e

/-- neighbours that are alike are left out: what comes behind y -/
def dedL : Lit → List Lit → List Lit
  | _, [] => []
  | y, x :: r => if Lit.eqb x y = true then dedL y r else x :: dedL x r
theorem dedL_asc : ∀ (r : List Lit) (y : Lit), (y :: r).Pairwise (fun a b => ¬ Lit.cmp b a < 0) → AscL (y :: dedL y r) ∧ ∀ a, a ∈ y :: dedL y r ↔ a ∈ y :: r
  | [], y, _ => ⟨by simp [AscL, dedL], fun a => by simp [dedL]⟩
  | x :: r, y, h => by
    rw [List.pairwise_cons] at h
    rw [dedL]
    split
    · rename_i e
      rw [Lit.eqb_iff] at e
      subst e
      obtain ⟨h1, h2⟩ := dedL_asc r x h.2
      exact ⟨h1, fun a => by rw [h2]; simp⟩
    · rename_i e
      rw [Lit.eqb_iff] at e
      obtain ⟨h1, h2⟩ := dedL_asc r x h.2
      have hyx : Lit.cmp y x < 0 := by
        have := h.1 x (by simp)
        have h0 : Lit.cmp y x ≠ 0 := fun q => e (Lit.cmp_zero q).symm
        have := Lit.cmp_anti y x
        omega
      refine ⟨?_, fun a => ?_⟩
      · rw [AscL, List.pairwise_cons]
        refine ⟨fun b hb => ?_, h1⟩
        rcases List.mem_cons.1 hb with rfl | hb
        · exact hyx
        · have h1' := h1
          rw [AscL, List.pairwise_cons] at h1'
          exact Lit.lt_trans hyx (h1'.1 b hb)
      · rw [List.mem_cons, h2, ← List.mem_cons]
def compactL : List Lit → List Lit
  | [] => []
  | y :: r => y :: dedL y r
theorem compact_make {l ys : List Lit} (hp : ys.Perm l) (hs : ys.Pairwise fun a b => ¬ Lit.cmp b a < 0) : compactL ys = makeL l := by
  cases ys with
  | nil => rw [List.nil_perm.1 hp]; rfl
  | cons y r =>
    obtain ⟨h1, h2⟩ := dedL_asc r y hs
    exact asc_one h1 (makeL_asc l) fun a => by rw [makeL_mem, ← hp.mem_iff]; exact h2 a
end Go.Proofs.YtooocakkjdhfiaaGreatDoor
