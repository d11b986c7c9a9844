/- The variables of a term, sorted: two ways, one list. Plain. -/
import Derived.Test.YtglhbaigigdeeaaDoorVs
import Derived.Test.YtglhbaigigdeeaaDoorKo
import Derived.Test.YtglhbaigigdeeaaDoorLf
namespace Go.Proofs.YtglhbaigigdeeaaDoor
set_option maxRecDepth 100000

theorem bl_eq : ∀ (x y : List UInt8), Op.bytesLess x y = decide (x < y)
  | [], [] => by simp [Op.bytesLess]
  | _ :: _, [] => by simp [Op.bytesLess]
  | [], _ :: _ => by simp [Op.bytesLess]
  | a :: x, b :: y => by
    rw [Op.bytesLess, bl_eq x y]
    simp only [List.cons_lt_cons_iff]
    by_cases h1 : a < b <;> by_cases h2 : a = b <;> by_cases h3 : x < y <;> simp [h1, h2, h3]
theorem bl_trans {x y z : List UInt8} (h : Op.bytesLess x y = true) (k : Op.bytesLess y z = true) : Op.bytesLess x z = true := by
  rw [bl_eq, decide_eq_true_iff] at *
  exact List.lt_trans h k
/-- names in ascending order -/
def Asc (l : List ByteArray) : Prop := l.Pairwise fun a b => Op.bytesLess a.toList b.toList = true
theorem asc_put {l : List ByteArray} (s : ByteArray) (h : Asc l) : Asc (putStr l s) := by
  induction l with
  | nil => simp [Asc, putStr]
  | cons x l ih =>
    have h1 := (List.pairwise_cons.1 h).1
    have h2 := (List.pairwise_cons.1 h).2
    rw [putStr]
    split
    · rename_i hx
      refine List.pairwise_cons.2 ⟨fun y hy => ?_, ih h2⟩
      rcases (putStr_mem l s y).1 hy with rfl | q
      · exact hx
      · exact h1 y q
    · rename_i hx
      split
      · exact h
      · rename_i hne
        have hs : Op.bytesLess s.toList x.toList = true := by
          have := bl_ge (x := x.toList) (y := s.toList) (by simpa using hx)
          rw [Bool.or_eq_true] at this
          rcases this with q | q
          · exact q
          · rw [toList_beq, decide_eq_true_iff] at q; exact absurd q.symm hne
        refine List.pairwise_cons.2 ⟨fun y hy => ?_, h⟩
        rcases List.mem_cons.1 hy with rfl | q
        · exact hs
        · exact bl_trans hs (h1 y q)
theorem asc_into (t : Tm) : ∀ l, Asc l → Asc (Tm.into t l) := by
  refine Tm.ind (P := fun t => ∀ l, Asc l → Asc (Tm.into t l)) (fun n ts ih l h => ?_) t
  rw [Tm.into]
  split
  · exact asc_put _ h
  · have key : ∀ ts : List Tm, (∀ a ∈ ts, ∀ l, Asc l → Asc (Tm.into a l)) → ∀ l, Asc l → Asc (Tm.intos ts l) := by
      intro ts
      induction ts with
      | nil => intro _ l h; simpa [Tm.intos] using h
      | cons t ts iht => intro hh l h; rw [Tm.intos]; exact iht (fun a ha => hh a (by simp [ha])) _ (hh t (by simp) l h)
    exact key ts ih l h
theorem addStr_mem (l : List ByteArray) (s m : ByteArray) : m ∈ addStr l s ↔ m ∈ l ∨ m = s := by
  unfold addStr
  split
  · rename_i h
    rw [hasStr_iff] at h
    constructor
    · exact .inl
    · rintro (q | rfl)
      · exact q
      · exact h
  · simp
theorem addStr_nodup {l : List ByteArray} (s : ByteArray) (h : l.Nodup) : (addStr l s).Nodup := by
  unfold addStr
  split
  · exact h
  · rename_i hs
    rw [hasStr_iff] at hs
    rw [List.nodup_append]
    refine ⟨h, by simp, fun a ha b hb => ?_⟩
    have : b = s := by simpa using hb
    subst this
    intro e; subst e; exact hs ha
theorem coll_mem (m : ByteArray) (t : Tm) : ∀ l, t.leafy → (m ∈ t.coll l ↔ m ∈ l ∨ Tm.hasVar m t) := by
  refine Tm.ind (P := fun t => ∀ l, t.leafy → (m ∈ t.coll l ↔ m ∈ l ∨ Tm.hasVar m t)) (fun n ts ih l h => ?_) t
  rw [Tm.leafy, Tm.leafies_iff] at h
  rw [Tm.coll, Tm.hasVar]
  by_cases hv : varName n = true
  · rw [if_pos ⟨h.1 hv, hv⟩, if_pos hv, addStr_mem, @eq_comm _ m n]
  · rw [if_neg (fun q => hv q.2), if_neg hv]
    have key : ∀ ts : List Tm, (∀ a ∈ ts, ∀ l, a.leafy → (m ∈ Tm.coll a l ↔ m ∈ l ∨ Tm.hasVar m a)) → (∀ a ∈ ts, a.leafy) → ∀ l, m ∈ Tm.colls ts l ↔ m ∈ l ∨ Tm.haveVar m ts := by
      intro ts
      induction ts with
      | nil => intro _ _ l; simp [Tm.colls, Tm.haveVar]
      | cons t ts iht =>
        intro hh hl l
        rw [Tm.colls, Tm.haveVar, iht (fun a ha => hh a (by simp [ha])) (fun a ha => hl a (by simp [ha])), hh t (by simp) l (hl t (by simp)), or_assoc]
    exact key ts ih h.2 l
theorem coll_nodup (t : Tm) : ∀ l : List ByteArray, l.Nodup → (t.coll l).Nodup := by
  refine Tm.ind (P := fun t => ∀ l : List ByteArray, l.Nodup → (t.coll l).Nodup) (fun n ts ih l h => ?_) t
  rw [Tm.coll]
  split
  · exact addStr_nodup _ h
  · have key : ∀ ts : List Tm, (∀ a ∈ ts, ∀ l : List ByteArray, l.Nodup → (Tm.coll a l).Nodup) → ∀ l : List ByteArray, l.Nodup → (Tm.colls ts l).Nodup := by
      intro ts
      induction ts with
      | nil => intro _ l h; simpa [Tm.colls] using h
      | cons t ts iht => intro hh l h; rw [Tm.colls]; exact iht (fun a ha => hh a (by simp [ha])) _ (hh t (by simp) l h)
    exact key ts ih l h

def tl (s : ByteArray) : List UInt8 := s.data.toList
theorem tl_inj {a b : ByteArray} (h : tl a = tl b) : a = b := by cases a; cases b; congr 1; exact Array.toList_inj.1 h
/-- a list without twins, sorted, is the ascending list of the same names -/
theorem sort_eq {l k : List ByteArray} (hl : l.Nodup) (hk : Asc k) (hm : ∀ m, m ∈ l ↔ m ∈ k) : (l.map tl).mergeSort (fun x y => decide (x ≤ y)) = k.map tl := by
  have hkn : (k.map tl).Pairwise (fun x y => x < y) := by
    rw [List.pairwise_map]
    refine List.Pairwise.imp (fun {a b} h => ?_) hk
    rw [ByteArray.toList_eq, ByteArray.toList_eq, bl_eq, decide_eq_true_iff] at h
    exact h
  have hkd : (k.map tl).Nodup := List.Pairwise.imp (fun {a b} h e => by subst e; exact List.lt_irrefl _ h) hkn
  have hld : (l.map tl).Nodup := by
    rw [List.nodup_iff_pairwise_ne, List.pairwise_map]
    exact List.Pairwise.imp (fun {a b} h e => h (tl_inj e)) hl
  have hp : (l.map tl).Perm (k.map tl) := (List.perm_ext_iff_of_nodup hld hkd).2 fun a => by
    simp only [List.mem_map, hm]
  refine List.Perm.eq_of_pairwise (le := fun x y => x ≤ y) (fun a b _ _ h1 h2 => List.le_antisymm h1 h2) ?_ (List.Pairwise.imp (fun {a b} h => List.le_of_lt h) hkn) ((List.mergeSort_perm _ _).trans hp)
  have := List.pairwise_mergeSort (le := fun (x y : List UInt8) => decide (x ≤ y)) (fun a b c h1 h2 => by
    simp only [decide_eq_true_iff] at *; exact List.le_trans h1 h2) (fun a b => by
    simp only [Bool.or_eq_true, decide_eq_true_iff]; exact List.le_total a b) (l.map tl)
  exact List.Pairwise.imp (fun {a b} h => by simpa using h) this
theorem vars_sorted {t : Tm} (h : t.leafy) : ((t.coll []).map tl).mergeSort (fun x y => decide (x ≤ y)) = (Tm.into t []).map tl :=
  sort_eq (coll_nodup t [] (by simp)) (asc_into t [] List.Pairwise.nil) fun m => by rw [coll_mem m t [] h, Tm.into_mem]
end Go.Proofs.YtglhbaigigdeeaaDoor
