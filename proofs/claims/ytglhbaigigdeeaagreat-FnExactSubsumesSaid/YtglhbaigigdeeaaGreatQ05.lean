/- Several texts in one file. -/
import Derived.Test.YtglhbaigigdeeaaGreatQ04
import Derived.Test.YtglhbaigigdeeaaGreatQ01
import Derived.Test.YtglhbaigigdeeaaGreatQ02
import Derived.Deep.AppendLies
import Derived.Laws.NewBlocks
/- A pattern is matched with a term: plain. -/
namespace Go.Proofs.YtglhbaigigdeeaaGreat
set_option maxRecDepth 100000
open Go.RowKit

/-- what a name is bound to -/
def lookB : List Bnd → ByteArray → Option Tm
  | [], _ => none
  | b :: bs, n => if b.var = n then some b.term else lookB bs n
theorem lookB_append (l k : List Bnd) (n : ByteArray) : lookB (l ++ k) n = match lookB l n with | some t => some t | none => lookB k n := by
  induction l with
  | nil => simp [lookB]
  | cons b l ih =>
    rw [List.cons_append, lookB, lookB]
    split
    · rfl
    · exact ih
theorem lookB_none {l : List Bnd} {n : ByteArray} : lookB l n = none ↔ ∀ b ∈ l, b.var ≠ n := by
  induction l with
  | nil => simp [lookB]
  | cons b l ih =>
    rw [lookB]
    split
    · rename_i h; simp [h]
    · rename_i h; rw [ih]; simp [h]
theorem lookB_at {l : List Bnd} {n : ByteArray} {k : Nat} (h : k < l.length) (hk : l[k].var = n) (hf : ∀ j (h : j < l.length), j < k → l[j].var ≠ n) : lookB l n = some l[k].term := by
  induction l generalizing k with
  | nil => exact absurd h (by simp)
  | cons b l ih =>
    rw [lookB]
    cases k with
    | zero =>
      have hk' : b.var = n := hk
      rw [if_pos hk']; rfl
    | succ k =>
      have h0 : b.var ≠ n := hf 0 (by simp) (by omega)
      rw [if_neg h0]
      exact ih (by simpa using h) hk fun j hj hjk => by have := hf (j + 1) (by simpa using hj) (by omega); simpa using this

mutual
/-- a pattern is matched with a term, what is known being l -/
def Tm.mat : Tm → Tm → List Bnd → Option (List Bnd)
  | .node n ts, u, l =>
    if varName n = true then
      match lookB l n with
      | some v => if Tm.eqb v u = true then some l else none
      | none => some (l ++ [⟨n, u⟩])
    else if n = u.name ∧ ts.length = u.args.length then Tm.mats ts u.args l else none
def Tm.mats : List Tm → List Tm → List Bnd → Option (List Bnd)
  | [], _, l => some l
  | _ :: _, [], l => some l
  | t :: ts, u :: us, l => match Tm.mat t u l with
    | some l' => Tm.mats ts us l'
    | none => none
end
theorem Tm.mat_eq (t u : Tm) (l : List Bnd) : Tm.mat t u l = if varName t.name = true then (match lookB l t.name with | some v => if Tm.eqb v u = true then some l else none | none => some (l ++ [⟨t.name, u⟩])) else if t.name = u.name ∧ t.args.length = u.args.length then Tm.mats t.args u.args l else none := by
  cases t; rw [Tm.mat]; rfl
theorem Tm.mat_node {t u : Tm} (l : List Bnd) (h : varName t.name = false) (hn : t.name = u.name) (hl : t.args.length = u.args.length) : Tm.mat t u l = Tm.mats t.args u.args l := by
  rw [Tm.mat_eq, h, if_neg (by decide), if_pos ⟨hn, hl⟩]
theorem Tm.mat_no {t u : Tm} (l : List Bnd) (h : varName t.name = false) (hn : ¬ (t.name = u.name ∧ t.args.length = u.args.length)) : Tm.mat t u l = none := by
  rw [Tm.mat_eq, h, if_neg (by decide), if_neg hn]
theorem Tm.mat_new {t u : Tm} {l : List Bnd} (h : varName t.name = true) (hl : lookB l t.name = none) : Tm.mat t u l = some (l ++ [⟨t.name, u⟩]) := by
  rw [Tm.mat_eq, if_pos h, hl]
theorem Tm.mat_old {t u v : Tm} {l : List Bnd} (h : varName t.name = true) (hl : lookB l t.name = some v) : Tm.mat t u l = if Tm.eqb v u = true then some l else none := by
  rw [Tm.mat_eq, if_pos h, hl]
/-- round k of the loop over the arguments -/
theorem Tm.mats_take : ∀ (ts us : List Tm) (l : List Bnd) (k : Nat) (h : k < ts.length) (h' : k < us.length), Tm.mats (ts.take (k + 1)) us l = match Tm.mats (ts.take k) us l with | some l' => Tm.mat ts[k] us[k] l' | none => none
  | [], _, _, _, h, _ => absurd h (by simp)
  | _ :: _, [], _, _, _, h => absurd h (by simp)
  | t :: ts, u :: us, l, 0, _, _ => by
    simp only [List.take_succ_cons, List.take_zero, Tm.mats, List.getElem_cons_zero]
    cases Tm.mat t u l <;> rfl
  | t :: ts, u :: us, l, k + 1, h, h' => by
    simp only [List.take_succ_cons, Tm.mats, List.getElem_cons_succ]
    cases Tm.mat t u l with
    | none => rfl
    | some l' => exact Tm.mats_take ts us l' k (by simpa using h) (by simpa using h')
theorem Tm.mats_none {ts us : List Tm} {l : List Bnd} : ∀ (k : Nat), Tm.mats (ts.take k) us l = none → Tm.mats ts us l = none := by
  induction ts generalizing us l with
  | nil => intro k h; simp [Tm.mats] at h
  | cons t ts ih =>
    intro k h
    cases us with
    | nil => cases k <;> simp [Tm.mats] at h
    | cons u us =>
      cases k with
      | zero => simp [Tm.mats] at h
      | succ k =>
        simp only [List.take_succ_cons, Tm.mats] at h ⊢
        revert h
        cases Tm.mat t u l with
        | none => intro _; rfl
        | some l' => exact ih k

/-- what every item that is known keeps -/
theorem Tm.mats_all {P : Bnd → Prop} : ∀ (ts us : List Tm) (l l' : List Bnd), (∀ a ∈ ts, ∀ u l l', (∀ n, varName n = true → n.size ≤ a.bulk → ∀ v, v.bulk ≤ u.bulk → P ⟨n, v⟩) → (∀ b ∈ l, P b) → Tm.mat a u l = some l' → ∀ b ∈ l', P b) →
    (∀ n, varName n = true → n.size ≤ Tm.bulks ts → ∀ v, v.bulk ≤ Tm.bulks us → P ⟨n, v⟩) → (∀ b ∈ l, P b) → Tm.mats ts us l = some l' → ∀ b ∈ l', P b
  | [], _, l, l', _, _, hl, h => by rw [Tm.mats] at h; injection h with h; subst h; exact hl
  | _ :: _, [], l, l', _, _, hl, h => by rw [Tm.mats] at h; injection h with h; subst h; exact hl
  | t :: ts, u :: us, l, l', ih, hP, hl, h => by
    rw [Tm.mats] at h
    cases hm : Tm.mat t u l with
    | none => rw [hm] at h; cases h
    | some l1 =>
      rw [hm] at h
      refine Tm.mats_all ts us l1 l' (fun a ha => ih a (by simp [ha])) (fun n hn hs v hv => hP n hn (by rw [Tm.bulks]; omega) v (by rw [Tm.bulks]; omega)) ?_ h
      exact ih t (by simp) u l l1 (fun n hn hs v hv => hP n hn (by rw [Tm.bulks]; omega) v (by rw [Tm.bulks]; omega)) hl hm
theorem Tm.mat_all {P : Bnd → Prop} (t : Tm) : ∀ u l l', (∀ n, varName n = true → n.size ≤ t.bulk → ∀ v, v.bulk ≤ u.bulk → P ⟨n, v⟩) → (∀ b ∈ l, P b) → Tm.mat t u l = some l' → ∀ b ∈ l', P b := by
  refine Tm.ind (P := fun t => ∀ u l l', (∀ n, varName n = true → n.size ≤ t.bulk → ∀ v, v.bulk ≤ u.bulk → P ⟨n, v⟩) → (∀ b ∈ l, P b) → Tm.mat t u l = some l' → ∀ b ∈ l', P b) (fun n ts ih u l l' hP hl h => ?_) t
  rw [Tm.mat] at h
  split at h
  · rename_i hv
    split at h
    · split at h
      · injection h with h; subst h; exact hl
      · cases h
    · injection h with h; subst h
      intro b hb
      rcases List.mem_append.1 hb with q | q
      · exact hl b q
      · rw [List.mem_singleton] at q; subst q
        exact hP n hv (by rw [Tm.bulk]; omega) u (Nat.le_refl _)
  · split at h
    · refine Tm.mats_all ts u.args l l' ih (fun n hn hs v hv => hP n hn (by rw [Tm.bulk]; omega) v ?_) hl h
      cases u; rw [Tm.bulk]; simp only [Tm.args] at hv; omega
    · cases h
/-- no name twice -/
def Once (l : List Bnd) : Prop := (l.map (·.var)).Nodup
theorem Tm.mat_once (t : Tm) : ∀ u l l', Once l → Tm.mat t u l = some l' → Once l' := by
  refine Tm.ind (P := fun t => ∀ u l l', Once l → Tm.mat t u l = some l' → Once l') (fun n ts ih u l l' hl h => ?_) t
  rw [Tm.mat] at h
  split at h
  · split at h
    · split at h
      · injection h with h; subst h; exact hl
      · cases h
    · rename_i hn
      injection h with h; subst h
      rw [Once, List.map_append]
      refine List.nodup_append.2 ⟨hl, by simp, fun a ha b hb => ?_⟩
      obtain ⟨x, hx, rfl⟩ := List.mem_map.1 ha
      simp only [List.map_cons, List.map_nil, List.mem_singleton] at hb
      subst hb
      exact lookB_none.1 hn x hx
  · split at h
    · have key : ∀ (ts us : List Tm) (l l' : List Bnd), (∀ a ∈ ts, ∀ u l l', Once l → Tm.mat a u l = some l' → Once l') → Once l → Tm.mats ts us l = some l' → Once l' := by
        intro ts
        induction ts with
        | nil => intro us l l' _ hl h; rw [Tm.mats] at h; injection h with h; subst h; exact hl
        | cons t ts iht =>
          intro us l l' ih hl h
          cases us with
          | nil => rw [Tm.mats] at h; injection h with h; subst h; exact hl
          | cons u us =>
            rw [Tm.mats] at h
            cases hm : Tm.mat t u l with
            | none => rw [hm] at h; cases h
            | some l1 =>
              rw [hm] at h
              exact iht us l1 l' (fun a ha => ih a (by simp [ha])) (ih t (by simp) u l l1 hl hm) h
      exact key ts u.args l l' ih hl h
    · cases h
theorem Tm.mat_length (t : Tm) : ∀ u l l', Tm.mat t u l = some l' → l'.length ≤ l.length + t.size := by
  refine Tm.ind (P := fun t => ∀ u l l', Tm.mat t u l = some l' → l'.length ≤ l.length + t.size) (fun n ts ih u l l' h => ?_) t
  rw [Tm.mat] at h
  rw [Tm.size]
  split at h
  · split at h
    · split at h
      · injection h with h; subst h; omega
      · cases h
    · injection h with h; subst h; simp
  · split at h
    · have key : ∀ (ts us : List Tm) (l l' : List Bnd), (∀ a ∈ ts, ∀ u l l', Tm.mat a u l = some l' → l'.length ≤ l.length + a.size) → Tm.mats ts us l = some l' → l'.length ≤ l.length + Tm.sizes ts := by
        intro ts
        induction ts with
        | nil => intro us l l' _ h; rw [Tm.mats] at h; injection h with h; subst h; simp
        | cons t ts iht =>
          intro us l l' ih h
          cases us with
          | nil => rw [Tm.mats] at h; injection h with h; subst h; omega
          | cons u us =>
            rw [Tm.mats] at h
            rw [Tm.sizes]
            cases hm : Tm.mat t u l with
            | none => rw [hm] at h; cases h
            | some l1 =>
              rw [hm] at h
              have := ih t (by simp) u l l1 hm
              have := iht us l1 l' (fun a ha => ih a (by simp [ha])) h
              omega
      have := key ts u.args l l' ih h
      omega
    · cases h

theorem Tm.mat_ge (t : Tm) : ∀ u l l', Tm.mat t u l = some l' → l.length ≤ l'.length := by
  refine Tm.ind (P := fun t => ∀ u l l', Tm.mat t u l = some l' → l.length ≤ l'.length) (fun n ts ih u l l' h => ?_) t
  rw [Tm.mat] at h
  split at h
  · split at h
    · split at h
      · injection h with h; subst h; exact Nat.le_refl _
      · cases h
    · injection h with h; subst h; simp
  · split at h
    · have key : ∀ (ts us : List Tm) (l l' : List Bnd), (∀ a ∈ ts, ∀ u l l', Tm.mat a u l = some l' → l.length ≤ l'.length) → Tm.mats ts us l = some l' → l.length ≤ l'.length := by
        intro ts
        induction ts with
        | nil => intro us l l' _ h; rw [Tm.mats] at h; injection h with h; subst h; exact Nat.le_refl _
        | cons t ts iht =>
          intro us l l' ih h
          cases us with
          | nil => rw [Tm.mats] at h; injection h with h; subst h; exact Nat.le_refl _
          | cons u us =>
            rw [Tm.mats] at h
            cases hm : Tm.mat t u l with
            | none => rw [hm] at h; cases h
            | some l1 =>
              rw [hm] at h
              have := ih t (by simp) u l l1 hm
              have := iht us l1 l' (fun a ha => ih a (by simp [ha])) h
              omega
      exact key ts u.args l l' ih h
    · cases h

/-- a binding is put at its place; a name bound to itself is left out -/
def putB (s : List Bnd) (x : Bnd) : List Bnd := if x.term.name = x.var then s else s.takeWhile (fun y => Op.bytesLess y.var.toList x.var.toList) ++ x :: s.dropWhile (fun y => Op.bytesLess y.var.toList x.var.toList)
/-- the bindings of what is known, in order -/
def pairsB (l : List Bnd) : List Bnd := l.foldl putB []
theorem pairsB_snoc (l : List Bnd) (k : Nat) (h : k < l.length) : pairsB (l.take (k + 1)) = putB (pairsB (l.take k)) l[k] := by
  rw [pairsB, List.take_succ_eq_append_getElem h, List.foldl_append]; rfl
/-- the bindings that are not of a name to itself -/
def moved (x : Bnd) : Bool := !decide (x.term.name = x.var)
def AscB (l : List Bnd) : Prop := l.Pairwise fun a b => Op.bytesLess a.var.toList b.var.toList = true
theorem putB_perm (s : List Bnd) (x : Bnd) : (putB s x).Perm (s ++ if moved x = true then [x] else []) := by
  rw [putB, moved]
  by_cases h : x.term.name = x.var
  · simp [h]
  · simp only [h, if_false, decide_false, Bool.not_false, if_true]
    refine List.Perm.trans List.perm_middle ?_
    rw [List.takeWhile_append_dropWhile]
    exact List.perm_append_comm (l₁ := [x])
theorem pairsB_perm (l : List Bnd) : (pairsB l).Perm (l.filter moved) := by
  have key : ∀ (l s : List Bnd), (l.foldl putB s).Perm (s ++ l.filter moved) := by
    intro l
    induction l with
    | nil => intro s; simp
    | cons x l ih =>
      intro s
      rw [List.foldl_cons]
      refine (ih _).trans ?_
      refine ((putB_perm s x).append_right _).trans ?_
      rw [List.filter_cons]
      split <;> simp
  show (l.foldl putB []).Perm _
  simpa using key l []
theorem mem_takeWhile {α : Type} {p : α → Bool} : ∀ {l : List α} {x : α}, x ∈ l.takeWhile p → p x = true
  | [], _, h => by simp at h
  | a :: l, x, h => by
    rw [List.takeWhile_cons] at h
    split at h
    · rename_i ha
      rcases List.mem_cons.1 h with rfl | h
      · exact ha
      · exact mem_takeWhile h
    · simp at h
theorem toList_inj {a b : ByteArray} (h : a.toList = b.toList) : a = b := Classical.byContradiction fun hn => by
  have := toList_ne hn
  rw [h] at this; simp at this
theorem bl_total {x y : List UInt8} (h : Op.bytesLess x y = false) (hn : x ≠ y) : Op.bytesLess y x = true := by
  have := bl_ge h
  rw [Bool.or_eq_true] at this
  rcases this with q | q
  · exact q
  · exact absurd (beq_iff_eq.1 q).symm hn
theorem putB_asc {s : List Bnd} {x : Bnd} (htr : ∀ {x y z : List UInt8}, Op.bytesLess x y = true → Op.bytesLess y z = true → Op.bytesLess x z = true) (h : AscB s) (hn : ∀ y ∈ s, y.var ≠ x.var) : AscB (putB s x) := by
  rw [putB]
  split
  · exact h
  · have hs : ∀ (s : List Bnd), AscB s → (∀ y ∈ s, y.var ≠ x.var) → ∀ y ∈ s.dropWhile (fun y => Op.bytesLess y.var.toList x.var.toList), Op.bytesLess x.var.toList y.var.toList = true := by
      intro s
      induction s with
      | nil => intro _ _ y hy; simp at hy
      | cons a s ih =>
        intro ha hne y hy
        rw [AscB, List.pairwise_cons] at ha
        rw [List.dropWhile_cons] at hy
        split at hy
        · exact ih ha.2 (fun y hy => hne y (by simp [hy])) y hy
        · rename_i hax
          have hxa : Op.bytesLess x.var.toList a.var.toList = true := bl_total (by simpa using hax) fun e => hne a (by simp) (toList_inj e)
          rcases List.mem_cons.1 hy with rfl | hy
          · exact hxa
          · exact htr hxa (ha.1 y hy)
    have hsub : AscB (s.takeWhile (fun y => Op.bytesLess y.var.toList x.var.toList)) := h.sublist (List.takeWhile_sublist _)
    have hdrop : AscB (s.dropWhile (fun y => Op.bytesLess y.var.toList x.var.toList)) := h.sublist (List.dropWhile_sublist _)
    rw [AscB, List.pairwise_append]
    refine ⟨hsub, ?_, fun a ha b hb => ?_⟩
    · rw [List.pairwise_cons]
      exact ⟨fun y hy => hs s h hn y hy, hdrop⟩
    · have hax := mem_takeWhile ha
      rcases List.mem_cons.1 hb with rfl | hb
      · exact hax
      · exact htr hax (hs s h hn b hb)
theorem pairsB_asc {l : List Bnd} (htr : ∀ {x y z : List UInt8}, Op.bytesLess x y = true → Op.bytesLess y z = true → Op.bytesLess x z = true) (h : Once l) : AscB (pairsB l) := by
  have key : ∀ k, k ≤ l.length → AscB (pairsB (l.take k)) := by
    intro k
    induction k with
    | zero => intro _; simp [pairsB, AscB]
    | succ k ih =>
      intro hk
      rw [pairsB_snoc l k (by omega)]
      refine putB_asc htr (ih (by omega)) fun y hy => ?_
      have hm := (pairsB_perm (l.take k)).mem_iff.1 hy
      have hm2 := (List.mem_filter.1 hm).1
      intro e
      obtain ⟨j, hj, he⟩ := List.mem_iff_getElem.1 hm2
      rw [List.getElem_take] at he
      rw [List.length_take] at hj
      rw [Once] at h
      have := List.pairwise_iff_getElem.1 h j k (by rw [List.length_map]; omega) (by rw [List.length_map]; omega) (by omega)
      simp only [List.getElem_map] at this
      exact this (by rw [he]; exact e)
  simpa using key l.length (Nat.le_refl _)
/-- what is ordered and holds the same is the same -/
theorem asc_unique {l k : List Bnd} (hl : AscB l) (hk : AscB k) (hp : l.Perm k) : l = k := by
  refine hp.eq_of_pairwise (fun a b _ _ h1 h2 => ?_) hl hk
  have := (bl_lt h1).1
  rw [this] at h2; cases h2
end Go.Proofs.YtglhbaigigdeeaaGreat
/- Lists of items that grow at their end, of which the call owns all memory. -/
namespace Go.Proofs.YtglhbaigigdeeaaGreat
set_option maxRecDepth 100000
open Go.RowKit

/-- cells own their data, the blocks F among them -/
def OwnsL (w : World) : List Value → List D → List Nat → Prop
  | [], [], F => F = []
  | v :: vs, d :: ds, F => ∃ F1 F2, F = F1 ++ F2 ∧ (∀ x ∈ F1, x ∉ F2) ∧ D.own w v d F1 ∧ OwnsL w vs ds F2
  | _, _, _ => False

theorem OwnsL.length {w : World} : ∀ {vs : List Value} {ds : List D} {F : List Nat}, OwnsL w vs ds F → vs.length = ds.length
  | [], [], _, _ => rfl
  | [], _ :: _, _, h => by rw [OwnsL] at h; exact h.elim; all_goals simp
  | _ :: _, [], _, h => by rw [OwnsL] at h; exact h.elim; all_goals simp
  | v :: vs, d :: ds, F, h => by
    rw [OwnsL] at h
    obtain ⟨F1, F2, _, _, _, h⟩ := h
    simp [OwnsL.length h]
theorem OwnsL.keep {w w' : World} : ∀ {vs : List Value} {ds : List D} {F : List Nat}, OwnsL w vs ds F → Keeps (· ∈ F) w w' → OwnsL w' vs ds F
  | [], [], _, h, _ => by rw [OwnsL] at h ⊢; exact h
  | [], _ :: _, _, h, _ => by rw [OwnsL] at h; exact h.elim; all_goals simp
  | _ :: _, [], _, h, _ => by rw [OwnsL] at h; exact h.elim; all_goals simp
  | v :: vs, d :: ds, F, h, hk => by
    rw [OwnsL] at h ⊢
    obtain ⟨F1, F2, rfl, h1, h2, h3⟩ := h
    exact ⟨F1, F2, rfl, h1, D.own_keep _ _ _ (hk.mono fun x hx => by simp [show x ∈ F1 from hx]) h2, h3.keep (hk.mono fun x hx => by simp [show x ∈ F2 from hx])⟩
theorem OwnsL.lt {w : World} : ∀ {vs : List Value} {ds : List D} {F : List Nat}, OwnsL w vs ds F → ∀ x ∈ F, x < w.heap.size
  | [], [], _, h => by rw [OwnsL] at h; subst h; simp
  | [], _ :: _, _, h => by rw [OwnsL] at h; exact h.elim; all_goals simp
  | _ :: _, [], _, h => by rw [OwnsL] at h; exact h.elim; all_goals simp
  | v :: vs, d :: ds, F, h => by
    rw [OwnsL] at h
    obtain ⟨F1, F2, rfl, h1, h2, h3⟩ := h
    intro x hx
    rcases List.mem_append.1 hx with q | q
    · exact D.own_lt _ _ _ h2 x q
    · exact h3.lt x q
theorem OwnsL.append {w : World} : ∀ {vs : List Value} {ds : List D} {F : List Nat} {us : List Value} {es : List D} {G : List Nat}, OwnsL w vs ds F → OwnsL w us es G → (∀ x ∈ F, x ∉ G) → OwnsL w (vs ++ us) (ds ++ es) (F ++ G)
  | [], [], _, _, _, _, h, k, _ => by rw [OwnsL] at h; subst h; exact k
  | [], _ :: _, _, _, _, _, h, _, _ => by rw [OwnsL] at h; exact h.elim; all_goals simp
  | _ :: _, [], _, _, _, _, h, _, _ => by rw [OwnsL] at h; exact h.elim; all_goals simp
  | v :: vs, d :: ds, F, us, es, G, h, k, hd => by
    rw [OwnsL] at h
    obtain ⟨F1, F2, rfl, h1, h2, h3⟩ := h
    rw [List.cons_append, List.cons_append, OwnsL]
    refine ⟨F1, F2 ++ G, by simp, fun x hx => ?_, h2, h3.append k fun x hx => hd x (by simp [hx])⟩
    rw [List.mem_append]; rintro (q | q)
    · exact h1 x hx q
    · exact hd x (by simp [hx]) q
theorem OwnsL.owns {w : World} {b : Nat} : ∀ {vs : List Value} {ds : List D} {F : List Nat} (off : Nat), OwnsL w vs ds F → (∀ i (h : i < vs.length), w.cell? ⟨b, off + i, none⟩ = some vs[i]) → D.owns w b off ds F
  | [], [], _, _, h, _ => by rw [OwnsL] at h; rw [D.owns]; exact h
  | [], _ :: _, _, _, h, _ => by rw [OwnsL] at h; exact h.elim; all_goals simp
  | _ :: _, [], _, _, h, _ => by rw [OwnsL] at h; exact h.elim; all_goals simp
  | v :: vs, d :: ds, F, off, h, hc => by
    rw [OwnsL] at h
    obtain ⟨F1, F2, rfl, h1, h2, h3⟩ := h
    rw [D.owns]
    refine ⟨F1, F2, rfl, h1, ⟨v, hc 0 (by simp), h2⟩, h3.owns (off + 1) fun i hi => ?_⟩
    have := hc (i + 1) (by simpa using hi)
    rw [show off + (i + 1) = off + 1 + i by omega] at this
    simpa using this
theorem OwnsL.nil (w : World) : OwnsL w [] [] [] := by rw [OwnsL]
theorem OwnsL.cons {w : World} {v : Value} {d : D} {F G : List Nat} {vs : List Value} {ds : List D} (h : D.own w v d F) (k : OwnsL w vs ds G) (hd : ∀ x ∈ F, x ∉ G) : OwnsL w (v :: vs) (d :: ds) (F ++ G) := by
  rw [OwnsL]; exact ⟨F, G, rfl, hd, h, k⟩

/-- a list that grows and that the call owns: items of m cells of type e, its row in a block from B on -/
def Gr (w : World) (B : Nat) (e : TypeId) (m : Nat) (v : Value) (n : Nat) (cs : List D) (F : List Nat) : Prop :=
  ∃ vs, w.ownsRow B e m v n vs ∧ OwnsL w vs cs F ∧ (∀ x ∈ F, B ≤ x) ∧ ∀ x, v.ownBlock = some x → x ∉ F

theorem Gr.nil (w : World) (B : Nat) (e : TypeId) (m : Nat) : Gr w B e m (.slice none 0 0) 0 [] [] := ⟨[], World.ownsRow_nil w B e m, OwnsL.nil w, by simp, by simp⟩
theorem Gr.made {w : World} {B n : Nat} (e : TypeId) (m : Nat) (hn : n = w.heap.size) (hB : B ≤ w.heap.size) : Gr (w.alloc (.cells #[] e)) B e m (.slice (some ⟨n, 0, none⟩) 0 0) 0 [] [] := by
  subst hn
  exact ⟨[], World.ownsRow_made w #[] 0 hB (by decide) (by simp), OwnsL.nil _, by simp, by simp⟩
theorem Gr.keep {w w' : World} {B : Nat} {e : TypeId} {m : Nat} {v : Value} {n : Nat} {cs : List D} {F : List Nat} (h : Gr w B e m v n cs F) (hb : Below w.heap.size w w') : Gr w' B e m v n cs F := by
  obtain ⟨vs, h0, h1, h2, h3⟩ := h
  refine ⟨vs, h0.kept ⟨hb.os, hb.tape, hb.output, hb.size, fun k hk _ => hb.block k hk⟩ (row := none) (by cases v.ownBlock <;> simp), h1.keep (Keeps.all hb), h2, h3⟩
theorem Gr.form {w : World} {B : Nat} {e : TypeId} {m : Nat} {v : Value} {n : Nat} {cs : List D} {F : List Nat} (h : Gr w B e m v n cs F) : ∃ a cap, v = .slice a n cap ∧ n ≤ big ∧ n ≤ cap := by
  obtain ⟨vs, h0, _⟩ := h
  rcases h0.2 with ⟨rfl, h1⟩ | ⟨g, cap, cur, rfl, hb, hg, hc, hm, _⟩
  · exact ⟨none, 0, by rw [h1], by omega, by omega⟩
  · exact ⟨_, cap, rfl, Nat.le_trans hc hm, hc⟩
theorem Gr.lt {w : World} {B : Nat} {e : TypeId} {m : Nat} {v : Value} {n : Nat} {cs : List D} {F : List Nat} (h : Gr w B e m v n cs F) : ∀ k, v.ownBlock = some k → B ≤ k ∧ k < w.heap.size := by
  obtain ⟨vs, h0, _⟩ := h; exact h0.lt
theorem Gr.ltF {w : World} {B : Nat} {e : TypeId} {m : Nat} {v : Value} {n : Nat} {cs : List D} {F : List Nat} (h : Gr w B e m v n cs F) : ∀ x ∈ F, x < w.heap.size := by
  obtain ⟨vs, h0, h1, _⟩ := h; exact h1.lt
theorem Gr.leF {w : World} {B : Nat} {e : TypeId} {m : Nat} {v : Value} {n : Nat} {cs : List D} {F : List Nat} (h : Gr w B e m v n cs F) : ∀ x ∈ F, B ≤ x := by
  obtain ⟨vs, h0, h1, h2, _⟩ := h; exact h2
theorem Gr.cell {w : World} {B : Nat} {e : TypeId} {m : Nat} {g n cap : Nat} {vs : List Value} (h : w.ownsRow B e m (.slice (some ⟨g, 0, none⟩) n cap) n vs) : ∀ i (hi : i < vs.length), w.cell? ⟨g, 0 + i, none⟩ = some vs[i] := by
  rcases h.2 with ⟨h1, _⟩ | ⟨g', cap', cur, e1, hb, hg, hc, hm, hs, htk⟩
  · cases h1
  · injection e1 with e1 _ e2
    injection e1 with e1
    injection e1 with e1
    subst e1
    intro i hi
    rw [World.cell?, Nat.zero_add, hg]
    have : (cur.toList.take (n * m))[i]? = some vs[i] := by rw [htk]; simp
    rw [List.getElem?_take] at this
    split at this
    · simpa using this
    · exact absurd this (by simp)
/-- a grown list is owned as a slice -/
theorem Gr.own {w : World} {B : Nat} {e : TypeId} {m : Nat} {v : Value} {n : Nat} {cs : List D} {F : List Nat} (h : Gr w B e m v n cs F) (hm : 0 < m) : ∃ G, D.own w v (.sl n cs) G ∧ ∀ x ∈ G, B ≤ x := by
  obtain ⟨vs, h0, h1, h2, h3⟩ := h
  have hl := h1.length
  have hn := h0.1
  by_cases hc : cs = []
  · subst hc
    have hv : vs = [] := List.length_eq_zero_iff.1 (by simpa using hl)
    subst hv
    have hn0 : n = 0 := by
      have : n * m = 0 := by simpa using hn.symm
      rcases Nat.mul_eq_zero.1 this with q | q <;> omega
    subst hn0
    rcases h0.2 with ⟨rfl, _⟩ | ⟨g, cap, cur, rfl, _⟩
    · exact ⟨[], D.own_nil _ _, by simp⟩
    · exact ⟨[], D.own_nil _ _, by simp⟩
  · rcases h0.2 with ⟨rfl, h4⟩ | ⟨g, cap, cur, rfl, hb, hg, hcp, hmx, hs, htk⟩
    · subst h4
      have : vs = [] := List.length_eq_zero_iff.1 (by simpa using hn)
      subst this
      exact absurd (List.length_eq_zero_iff.1 (by simpa using hl.symm)) hc
    · refine ⟨g :: F, ?_, fun x hx => ?_⟩
      · rw [D.own]
        exact ⟨_, _, rfl, Nat.le_trans hcp hmx, hcp, fun _ => hc, .inr ⟨hc, g, 0, F, cur, e, rfl, hg, rfl, h3 g rfl, h1.owns 0 (Gr.cell h0)⟩⟩
      · rcases List.mem_cons.1 hx with rfl | hx
        · exact hb
        · exact h2 x hx
theorem keeps_grown {w w' : World} {v : Value} {F : List Nat} (hg : w.grownBy w' v.ownBlock) (h : ∀ x, v.ownBlock = some x → x ∉ F) : Keeps (· ∈ F) w w' :=
  ⟨hg.size, fun b hb hl => hg.block b hl fun e => h b e.symm hb⟩

theorem info_split {P : Program} {e : TypeId} {z : Value} {size bytes : Nat} (hinfo : (P.info? e).map (fun i => (i.zero, i.size, i.bytes)) = some (some z, size, bytes)) : ∃ i, P.info? e = some i ∧ i.zero = some z ∧ i.size = size ∧ i.bytes = bytes := by
  cases h : P.info? e with
  | none => rw [h] at hinfo; cases hinfo
  | some i =>
    rw [h] at hinfo
    injection hinfo with hz
    injection hz with h0 h1; injection h1 with h1 h2
    exact ⟨i, rfl, h0, h1, h2⟩
/-- append(list, item): the item lies in a block of its own -/
theorem run_append_gr {P : Program} {w : World} {B : Nat} {t e ty : TypeId} {m bytes : Nat} {z : Value} (ht : P.underlying t = some (.slice e)) (hinfo : (P.info? e).map (fun i => (i.zero, i.size, i.bytes)) = some (some z, m, bytes)) (hzs : z.cells.size = m) (hm : 0 < m) (hbytes : bytes ≤ 1000)
    {v : Value} {n : Nat} {cs : List D} {F : List Nat} (hrow : Gr w B e m v n cs F) {b : Nat} {news : List Value} {ds : List D} {G : List Nat} (hl : news.length = m) (hcell : ∀ j u, news[j]? = some u → w.cell? ⟨b, j, none⟩ = some u) (h1 : ∀ u ∈ news, u.oneCell' = true)
    (hO : OwnsL w news ds G) (hG : ∀ x ∈ G, B ≤ x) (hd : ∀ x ∈ F, x ∉ G) (hv : ∀ x, v.ownBlock = some x → x ∉ G) (hn : n ≤ 4294967296) (hB : B ≤ w.heap.size) :
    ∃ g cap w', (Builtin.append_ #[t, t] ty #[v, .slice (some ⟨b, 0, none⟩) 1 1]).run P w = .ok (.slice (some ⟨g, 0, none⟩) (n + 1) cap) w' ∧
      Gr w' B e m (.slice (some ⟨g, 0, none⟩) (n + 1) cap) (n + 1) (cs ++ ds) (F ++ G) ∧ w.grownBy w' v.ownBlock ∧ (v.ownBlock = some g ∨ g = w.heap.size) ∧ g < w'.heap.size := by
  obtain ⟨i, hi, hz0, hz1, hz2⟩ := info_split hinfo
  obtain ⟨vs, r0, r1, r2, r3⟩ := hrow
  obtain ⟨g, cap, w', q1, q2, q3, q4, q5⟩ := run_append_lies (P := P) w t ty B e i z m bytes ht hi hz0 hz1 hz2 hzs hm v n vs r0 ⟨b, 0, none⟩ 1 1 news (by rw [hl, Nat.one_mul])
    (fun j u hj => by
      have := hcell j u hj
      unfold Addr.add
      split
      · rename_i h0; subst h0; exact this
      · simpa using this) h1 (by decide) (by unfold maxLen; omega) (Nat.le_trans (Nat.mul_le_mul_left _ hbytes) (by omega)) hB _ rfl
  have hkF := keeps_grown (F := F) q3 r3
  have hkG := keeps_grown (F := G) q3 hv
  refine ⟨g, cap, w', q1, ⟨_, q2, (r1.keep hkF).append (hO.keep hkG) hd, fun x hx => ?_, fun x hx => ?_⟩, q3, q4, q5⟩
  · rcases List.mem_append.1 hx with q | q
    · exact r2 x q
    · exact hG x q
  · simp only [Value.ownBlock, Option.some.injEq] at hx
    subst hx
    rw [List.mem_append]
    rcases q4 with q | q
    · rintro (p | p)
      · exact r3 _ q p
      · exact hv _ q p
    · rintro (p | p)
      · have := r1.lt _ p; omega
      · have := hO.lt _ p; omega
/-- .. at the list of a plain region's operations -/
theorem wpList_append_gr {P : Program} {ops : Array Oper} {rest : List Oper} {o : Oper} {a : Act} {w : World} {Q : Exit → Act → World → Prop} {B : Nat} {t e : TypeId} {m bytes : Nat} {z : Value} (ht : P.underlying t = some (.slice e)) (hinfo : (P.info? e).map (fun i => (i.zero, i.size, i.bytes)) = some (some z, m, bytes)) (hzs : z.cells.size = m) (hm : 0 < m) (hbytes : bytes ≤ 1000)
    (hgd : o.guard = none) (s x : Operand) (ho : o.op = .call { callee := .builtin .append, args := #[s, x], argTypes := #[t, t] })
    {v : Value} {n : Nat} {cs : List D} {F : List Nat} {b : Nat} {news : List Value} {ds : List D} {G : List Nat} (hs : a.eval s = v) (hx : a.eval x = .slice (some ⟨b, 0, none⟩) 1 1) (hrow : Gr w B e m v n cs F) (hl : news.length = m) (hcell : ∀ j u, news[j]? = some u → w.cell? ⟨b, j, none⟩ = some u) (h1 : ∀ u ∈ news, u.oneCell' = true)
    (hO : OwnsL w news ds G) (hG : ∀ x ∈ G, B ≤ x) (hd : ∀ x ∈ F, x ∉ G) (hv : ∀ x, v.ownBlock = some x → x ∉ G) (hn : n ≤ 4294967296) (hB : B ≤ w.heap.size)
    (h : ∀ g cap w', Gr w' B e m (.slice (some ⟨g, 0, none⟩) (n + 1) cap) (n + 1) (cs ++ ds) (F ++ G) → w.grownBy w' v.ownBlock → (v.ownBlock = some g ∨ g = w.heap.size) → g < w'.heap.size → wpList P ops Q rest (a.put o.dst (.slice (some ⟨g, 0, none⟩) (n + 1) cap)) w') : wpList P ops Q (o :: rest) a w := by
  obtain ⟨g, cap, w', hr, h2, h3, h4, h5⟩ := run_append_gr (ty := o.type) ht hinfo hzs hm hbytes hrow hl hcell h1 hO hG hd hv hn hB
  refine wpList_plain hgd fun _ hK => ?_
  unfold Oper.wp execOp
  simp only [ho, resolve, invoke, builtin, Sem.run_bind, Sem.run_pure, Result.andThen_ok, List.map_toArray, List.map_cons, List.map_nil, hs, hx, hr]
  exact hK _ _ (h g cap w' h2 h3 h4 h5)
/-- .. at a step of a region that draws its order -/
theorem step_append_gr {P : Program} {ops : Array Oper} {o : Oper} {a : Act} {w : World} {K : Act → World → Prop} {Q : Exit → Act → World → Prop} {E : Prop} {B : Nat} {t e : TypeId} {m bytes : Nat} {z : Value} (ht : P.underlying t = some (.slice e)) (hinfo : (P.info? e).map (fun i => (i.zero, i.size, i.bytes)) = some (some z, m, bytes)) (hzs : z.cells.size = m) (hm : 0 < m) (hbytes : bytes ≤ 1000)
    (hgd : o.guard = none) (s x : Operand) (ho : o.op = .call { callee := .builtin .append, args := #[s, x], argTypes := #[t, t] })
    {v : Value} {n : Nat} {cs : List D} {F : List Nat} {b : Nat} {news : List Value} {ds : List D} {G : List Nat} (hs : a.eval s = v) (hx : a.eval x = .slice (some ⟨b, 0, none⟩) 1 1) (hrow : Gr w B e m v n cs F) (hl : news.length = m) (hcell : ∀ j u, news[j]? = some u → w.cell? ⟨b, j, none⟩ = some u) (h1 : ∀ u ∈ news, u.oneCell' = true)
    (hO : OwnsL w news ds G) (hG : ∀ x ∈ G, B ≤ x) (hd : ∀ x ∈ F, x ∉ G) (hv : ∀ x, v.ownBlock = some x → x ∉ G) (hn : n ≤ 4294967296) (hB : B ≤ w.heap.size)
    (h : ∀ g cap w', Gr w' B e m (.slice (some ⟨g, 0, none⟩) (n + 1) cap) (n + 1) (cs ++ ds) (F ++ G) → w.grownBy w' v.ownBlock → (v.ownBlock = some g ∨ g = w.heap.size) → g < w'.heap.size → K (a.put o.dst (.slice (some ⟨g, 0, none⟩) (n + 1) cap)) w') :
    if Region.wanted o (yielded ops a.tmps) = true then Oper.wp P o a w K Q else E := by
  have hw : Region.wanted o (yielded ops a.tmps) = true := by simp [Region.wanted, hgd]
  rw [if_pos hw]
  obtain ⟨g, cap, w', hr, h2, h3, h4, h5⟩ := run_append_gr (ty := o.type) ht hinfo hzs hm hbytes hrow hl hcell h1 hO hG hd hv hn hB
  unfold Oper.wp execOp
  simp only [ho, resolve, invoke, builtin, Sem.run_bind, Sem.run_pure, Result.andThen_ok, List.map_toArray, List.map_cons, List.map_nil, hs, hx, hr]
  exact h g cap w' h2 h3 h4 h5
theorem Gr.setCell {w : World} {B : Nat} {e : TypeId} {m : Nat} {v : Value} {n : Nat} {cs : List D} {F : List Nat} (h : Gr w B e m v n cs F) {p : Addr} (hp : p.block < B) (u : Value) : Gr (w.setCell p u) B e m v n cs F := by
  obtain ⟨vs, h0, h1, h2, h3⟩ := h
  refine ⟨vs, h0.kept (row := some p.block) ⟨rfl, rfl, rfl, by simp [World.setCell], fun k hk hne => Below.heap_setCell _ _ _ _ (fun e => hne (by rw [e]))⟩ ?_, h1.keep ((Keeps.refl _ _).setCell (fun q _ => by have := h2 _ q; omega) _), h2, h3⟩
  rcases hv : v.ownBlock with _ | x
  · exact .inl rfl
  · right; intro e; injection e with e; have := (h0.lt x hv).1; omega
/-- behind an append: what the region's world keeps of an elder one -/
theorem below_grown {B : Nat} {W w w' : World} {v : Value} (h : Below B W w) (hg : w.grownBy w' v.ownBlock) (hB : B ≤ w.heap.size) (hv : ∀ k, v.ownBlock = some k → B ≤ k) : Below B W w' := Below.grown h hg hB hv
theorem frz1 (w : World) (c0 : Array Value) (t0 : TypeId) (i n : Nat) (hn : n = w.heap.size) : (w.alloc (.cells c0 t0)).frozen? ⟨n, i, none⟩ = false := World.frozen?_alloc_at c0 t0 n i hn
/-- behind growth: other blocks' cells and marks -/
theorem grown_cell {w w' : World} {v : Value} (hg : w.grownBy w' v.ownBlock) {b : Nat} (hb : b < w.heap.size) (hne : ∀ x, v.ownBlock = some x → x ≠ b) : (∀ o, w'.cell? ⟨b, o, none⟩ = w.cell? ⟨b, o, none⟩) ∧ (∀ o, w'.frozen? ⟨b, o, none⟩ = w.frozen? ⟨b, o, none⟩) := by
  have := hg.block b hb fun e => hne b e.symm rfl
  exact ⟨fun o => World.cell?_of_block (a := ⟨b, o, none⟩) this, fun o => World.frozen?_of_block (a := ⟨b, o, none⟩) this⟩
/-- a step of a region that draws its order, by what it does -/
theorem step_does {P : Program} {ops : Array Oper} {o : Oper} {a : Act} {w : World} {K : Act → World → Prop} {Q : Exit → Act → World → Prop} {E : Prop} (hgd : o.guard = none) (h : Does P o a.eval w fun v w' => K (a.put o.dst v) w') :
    if Region.wanted o (yielded ops a.tmps) = true then Oper.wp P o a w K Q else E := by
  have hw : Region.wanted o (yielded ops a.tmps) = true := by simp [Region.wanted, hgd]
  rw [if_pos hw]
  exact Does.wp h fun _ _ h => h
/-- append(list, src...): the source's cells lie in a row -/
theorem run_append_grs {P : Program} {w : World} {B : Nat} {t e ty : TypeId} {m bytes : Nat} {z : Value} (ht : P.underlying t = some (.slice e)) (hinfo : (P.info? e).map (fun i => (i.zero, i.size, i.bytes)) = some (some z, m, bytes)) (hzs : z.cells.size = m) (hm : 0 < m) (hbytes : bytes ≤ 1000)
    {v : Value} {n : Nat} {cs : List D} {F : List Nat} (hrow : Gr w B e m v n cs F) {b off k c : Nat} {news : List Value} {ds : List D} {G : List Nat} (hl : news.length = k * m) (hcell : ∀ j u, news[j]? = some u → w.cell? ⟨b, off + j, none⟩ = some u) (h1 : ∀ u ∈ news, u.oneCell' = true)
    (hO : OwnsL w news ds G) (hG : ∀ x ∈ G, B ≤ x) (hd : ∀ x ∈ F, x ∉ G) (hv : ∀ x, v.ownBlock = some x → x ∉ G) (hn : n + k ≤ 4294967296) (hB : B ≤ w.heap.size) :
    ∃ v' w', (Builtin.append_ #[t, t] ty #[v, .slice (some ⟨b, off, none⟩) k c]).run P w = .ok v' w' ∧
      Gr w' B e m v' (n + k) (cs ++ ds) (F ++ G) ∧ w.grownBy w' v.ownBlock ∧ (v'.ownBlock = v.ownBlock ∨ v'.ownBlock = some w.heap.size) ∧ (v ≠ .slice none 0 0 → v' ≠ .slice none 0 0) := by
  obtain ⟨i, hi, hz0, hz1, hz2⟩ := info_split hinfo
  obtain ⟨vs, r0, r1, r2, r3⟩ := hrow
  obtain ⟨v', w', q1, q2, q3, q4, q5⟩ := run_append_own_at (P := P) w B t ty e i z m bytes ht hi hz0 hz1 hz2 hzs hm v n vs r0 ⟨b, off, none⟩ k c news hl
    (fun j u hj => by
      have := hcell j u hj
      unfold Addr.add
      split
      · rename_i h0; subst h0; exact this
      · simpa using this) h1 (by unfold maxLen; omega) (Nat.le_trans (Nat.mul_le_mul_left _ hbytes) (by omega)) hB
  have hkF := keeps_grown (F := F) q3 r3
  have hkG := keeps_grown (F := G) q3 hv
  refine ⟨v', w', q1, ⟨_, q2, (r1.keep hkF).append (hO.keep hkG) hd, fun x hx => ?_, fun x hx => ?_⟩, q3, q5, fun hne hn => hne (q4.1 hn).1⟩
  · rcases List.mem_append.1 hx with q | q
    · exact r2 x q
    · exact hG x q
  · rw [List.mem_append]
    rcases q5 with q | q
    · rw [q] at hx
      rintro (p | p)
      · exact r3 _ hx p
      · exact hv _ hx p
    · rw [q] at hx
      injection hx with hx
      rintro (p | p)
      · have := r1.lt _ p; omega
      · have := hO.lt _ p; omega
/-- .. at the list of a plain region's operations -/
theorem wpList_append_grs {P : Program} {ops : Array Oper} {rest : List Oper} {o : Oper} {a : Act} {w : World} {Q : Exit → Act → World → Prop} {B : Nat} {t e : TypeId} {m bytes : Nat} {z : Value} (ht : P.underlying t = some (.slice e)) (hinfo : (P.info? e).map (fun i => (i.zero, i.size, i.bytes)) = some (some z, m, bytes)) (hzs : z.cells.size = m) (hm : 0 < m) (hbytes : bytes ≤ 1000)
    (hgd : o.guard = none) (s x : Operand) (ho : o.op = .call { callee := .builtin .append, args := #[s, x], argTypes := #[t, t] })
    {v : Value} {n : Nat} {cs : List D} {F : List Nat} {b off k c : Nat} {news : List Value} {ds : List D} {G : List Nat} (hs : a.eval s = v) (hx : a.eval x = .slice (some ⟨b, off, none⟩) k c) (hrow : Gr w B e m v n cs F) (hl : news.length = k * m) (hcell : ∀ j u, news[j]? = some u → w.cell? ⟨b, off + j, none⟩ = some u) (h1 : ∀ u ∈ news, u.oneCell' = true)
    (hO : OwnsL w news ds G) (hG : ∀ x ∈ G, B ≤ x) (hd : ∀ x ∈ F, x ∉ G) (hv : ∀ x, v.ownBlock = some x → x ∉ G) (hn : n + k ≤ 4294967296) (hB : B ≤ w.heap.size)
    (h : ∀ v' w', Gr w' B e m v' (n + k) (cs ++ ds) (F ++ G) → w.grownBy w' v.ownBlock → (v'.ownBlock = v.ownBlock ∨ v'.ownBlock = some w.heap.size) → (v ≠ .slice none 0 0 → v' ≠ .slice none 0 0) → wpList P ops Q rest (a.put o.dst v') w') : wpList P ops Q (o :: rest) a w := by
  obtain ⟨v', w', hr, h2, h3, h4, h5⟩ := run_append_grs (ty := o.type) (c := c) ht hinfo hzs hm hbytes hrow hl hcell h1 hO hG hd hv hn hB
  refine wpList_plain hgd fun _ hK => ?_
  unfold Oper.wp execOp
  simp only [ho, resolve, invoke, builtin, Sem.run_bind, Sem.run_pure, Result.andThen_ok, List.map_toArray, List.map_cons, List.map_nil, hs, hx, hr]
  exact hK _ _ (h v' w' h2 h3 h4 h5)
/-- .. at a step of a region that draws its order -/
theorem step_append_grs {P : Program} {ops : Array Oper} {o : Oper} {a : Act} {w : World} {K : Act → World → Prop} {Q : Exit → Act → World → Prop} {E : Prop} {B : Nat} {t e : TypeId} {m bytes : Nat} {z : Value} (ht : P.underlying t = some (.slice e)) (hinfo : (P.info? e).map (fun i => (i.zero, i.size, i.bytes)) = some (some z, m, bytes)) (hzs : z.cells.size = m) (hm : 0 < m) (hbytes : bytes ≤ 1000)
    (hgd : o.guard = none) (s x : Operand) (ho : o.op = .call { callee := .builtin .append, args := #[s, x], argTypes := #[t, t] })
    {v : Value} {n : Nat} {cs : List D} {F : List Nat} {b off k c : Nat} {news : List Value} {ds : List D} {G : List Nat} (hs : a.eval s = v) (hx : a.eval x = .slice (some ⟨b, off, none⟩) k c) (hrow : Gr w B e m v n cs F) (hl : news.length = k * m) (hcell : ∀ j u, news[j]? = some u → w.cell? ⟨b, off + j, none⟩ = some u) (h1 : ∀ u ∈ news, u.oneCell' = true)
    (hO : OwnsL w news ds G) (hG : ∀ x ∈ G, B ≤ x) (hd : ∀ x ∈ F, x ∉ G) (hv : ∀ x, v.ownBlock = some x → x ∉ G) (hn : n + k ≤ 4294967296) (hB : B ≤ w.heap.size)
    (h : ∀ v' w', Gr w' B e m v' (n + k) (cs ++ ds) (F ++ G) → w.grownBy w' v.ownBlock → (v'.ownBlock = v.ownBlock ∨ v'.ownBlock = some w.heap.size) → (v ≠ .slice none 0 0 → v' ≠ .slice none 0 0) → K (a.put o.dst v') w') :
    if Region.wanted o (yielded ops a.tmps) = true then Oper.wp P o a w K Q else E := by
  have hw : Region.wanted o (yielded ops a.tmps) = true := by simp [Region.wanted, hgd]
  rw [if_pos hw]
  obtain ⟨v', w', hr, h2, h3, h4, h5⟩ := run_append_grs (ty := o.type) (c := c) ht hinfo hzs hm hbytes hrow hl hcell h1 hO hG hd hv hn hB
  unfold Oper.wp execOp
  simp only [ho, resolve, invoke, builtin, Sem.run_bind, Sem.run_pure, Result.andThen_ok, List.map_toArray, List.map_cons, List.map_nil, hs, hx, hr]
  exact h v' w' h2 h3 h4 h5
/-- a made row of known cells -/
theorem Gr.lit {w : World} {B N : Nat} (e : TypeId) {m n : Nat} {vs : List Value} {cs : List D} {F : List Nat} (hN : N = w.heap.size) (hB : B ≤ w.heap.size) (hl : vs.length = n * m) (hn : n ≤ maxLen) (h : OwnsL w vs cs F) (hF : ∀ x ∈ F, B ≤ x) :
    Gr (w.alloc (.cells vs.toArray e)) B e m (.slice (some ⟨N, 0, none⟩) n n) n cs F := by
  subst hN
  refine ⟨vs, ⟨hl, .inr ⟨w.heap.size, n, vs.toArray, rfl, hB, heap_alloc_new w _, Nat.le_refl _, hn, by simp [hl], ?_⟩⟩, h.keep ((Keeps.refl _ _).alloc _), hF, fun x hx => ?_⟩
  · simp [← hl]
  · injection hx with hx; subst hx; exact fun q => Nat.lt_irrefl _ (h.lt _ q)
/-- a list that is owned as a slice is a grown one -/
theorem Gr.item {w : World} {B : Nat} {e : TypeId} {m : Nat} {g n cap : Nat} {cs : List D} {F : List Nat} (h : Gr w B e m (.slice (some ⟨g, 0, none⟩) n cap) n cs F) : ∃ vs, vs.length = n * m ∧ (∀ i (hi : i < vs.length), w.cell? ⟨g, 0 + i, none⟩ = some vs[i]) ∧ OwnsL w vs cs F := by
  obtain ⟨vs, h0, h1, _⟩ := h
  exact ⟨vs, h0.1, Gr.cell h0, h1⟩
end Go.Proofs.YtglhbaigigdeeaaGreat
