/- A region that draws its order, whose last operations wait for all others: the others first. -/
import Derived.Test.YtooocakkjdhfiaaDoorReg
import Derived.Deep.RegionHeld
namespace Go.Proofs.YtooocakkjdhfiaaDoor
set_option maxRecDepth 100000

/-- each operation of l is waited for by a later one of l or by each of tl, whose operations wait for one another; no guard leads out of l -/
def lateOk (l tl : List Oper) : Bool :=
  wfDeps l &&
  (l.all fun o => match o.guard with | none => true | some (j, _) => decide (j < l.length)) &&
  ((List.range tl.length).all fun k => match tl[k]? with
    | none => true
    | some o => o.guard.isNone && ((depsOf o).all fun d => decide (d < l.length + k)) && (decide (k = 0) || (depsOf o).contains (l.length + (k - 1))) &&
      (List.range l.length).all fun i => (depsOf o).contains i || (List.range l.length).any fun j => decide (i < j) && (match l[j]? with | some o' => (depsOf o').contains i | none => false))

/-- the last operations, one behind the other -/
def wpTail (P : Program) (Q : Exit → Act → World → Prop) : List Oper → Act → World → Prop
  | [], a, w => Q .normal a w
  | o :: os, a, w => Oper.wp P o a w (wpTail P Q os) Q

def LateQ (P : Program) (Q : Exit → Act → World → Prop) (tl : List Oper) : Exit → Act → World → Prop
  | .normal, a, w => wpTail P Q tl a w
  | .exit i, a, w => Q (.exit i) a w
  | .goto i, a, w => Q (.goto i) a w
  | .ret, a, w => Q .ret a w
  | .panic _, _, _ => False
  | .outgrown, a, w => Q .outgrown a w

theorem wpTail_step {P : Program} {Q : Exit → Act → World → Prop} {o : Oper} {os : List Oper} {a : Act} {w : World} (hg : o.guard = none)
    (h : ∀ K : Act → World → Prop, Shut (∀ a w, wpTail P Q os a w → K a w) → if Region.wanted o (yielded (#[] : Array Oper) a.tmps) = true then Oper.wp P o a w K Q else K (a.put o.dst undef) w) : wpTail P Q (o :: os) a w := by
  have := h (wpTail P Q os) (fun _ _ h => h)
  rw [if_pos (by simp [Region.wanted, hg])] at this
  exact this

theorem mem_depsOf {o : Oper} {d : Nat} : d ∈ depsOf o ↔ ∃ e ∈ o.after, Region.binds .any e = true ∧ e.on = d := by
  unfold depsOf
  rw [List.mem_filterMap]
  constructor
  · rintro ⟨e, he, hx⟩
    split at hx
    · rename_i hb; injection hx with hx; exact ⟨e, by simpa using he, hb, hx⟩
    · cases hx
  · rintro ⟨e, he, hb, rfl⟩
    exact ⟨e, by simpa using he, by simp [hb]⟩

theorem ready_iff {ops : Array Oper} {listed : Array Bool} {i : Nat} : i ∈ Region.ready .any ops listed ↔ i < ops.size ∧ listed.getD i true = false ∧ ∃ o, ops[i]? = some o ∧ ∀ d ∈ depsOf o, listed.getD d false = true := by
  unfold Region.ready
  simp only [List.mem_filter, List.mem_range, Bool.and_eq_true, Bool.not_eq_true']
  constructor
  · rintro ⟨h0, h1, h2⟩
    have ho : ops[i]? = some ops[i] := Array.getElem?_eq_getElem h0
    rw [ho] at h2
    simp only [Option.map_some, Option.getD_some, Array.all_eq_true'] at h2
    refine ⟨h0, h1, _, ho, fun d hd => ?_⟩
    obtain ⟨e, he, hb, rfl⟩ := mem_depsOf.1 hd
    have := h2 e he
    simpa [hb] using this
  · rintro ⟨h0, h1, o, ho, h2⟩
    refine ⟨h0, h1, ?_⟩
    rw [ho]
    simp only [Option.map_some, Option.getD_some, Array.all_eq_true']
    intro e he
    by_cases hb : Region.binds .any e = true
    · have := h2 e.on (mem_depsOf.2 ⟨e, he, hb, rfl⟩)
      simp [this]
    · simp [hb]

theorem Oper.wp_late {P : Program} {Q : Exit → Act → World → Prop} {tl : List Oper} {o : Oper} {a : Act} {w : World} {K K' : Act → World → Prop} (hK : ∀ a w, K a w → K' a w) (h : Oper.wp P o a w K (LateQ P Q tl)) : Oper.wp P o a w K' Q := by
  unfold Oper.wp at h ⊢
  generalize (execOp a.eval o).run P w = r at *
  cases r with
  | ok n w' =>
    cases n <;> simp only [Oper.upon] at h ⊢
    case value v => exact hK _ _ h
    case skip => exact hK _ _ h
    case defer d => exact hK _ _ h
    case enter f args =>
      refine Calls.mono h fun e w'' he => ?_
      cases e with
      | returned u => exact hK _ _ he
      | panicked c => exact (he : False).elim
      | outgrown => obtain ⟨a', w3, h3⟩ := he; exact ⟨a', w3, h3⟩
    case row row args => exact Rows.mono h fun u w'' he => hK _ _ he
  | halt x w' =>
    cases x <;> simp only [Oper.upon] at h ⊢
    case panic v => exact (h : False).elim

section
variable {P : Program} {Q : Exit → Act → World → Prop} {l tl : List Oper}

theorem late_get {i : Nat} (hi : i < l.length) : ((l ++ tl).toArray)[i]? = l.toArray[i]? := by simp [List.getElem?_append_left hi]
theorem late_tl (k : Nat) : ((l ++ tl).toArray)[l.length + k]? = tl[k]? := by
  rw [List.getElem?_toArray, List.getElem?_append_right (by omega), show l.length + k - l.length = k by omega]

/-- the last operations are walked -/
theorem wpAny_tail (hok : lateOk l tl = true) : ∀ (m k fuel : Nat) (a : Act) (w : World), m + k = tl.length → m ≤ fuel → wpTail P Q (tl.drop k) a w →
    wpAny P .any (l ++ tl).toArray Q fuel (Array.replicate (l.length + k) true ++ Array.replicate m false) a w := by
  have hall := hok
  unfold lateOk at hall
  simp only [Bool.and_eq_true] at hall
  obtain ⟨⟨_, _⟩, hT⟩ := hall
  rw [List.all_eq_true] at hT
  intro m
  induction m with
  | zero =>
    intro k fuel a w hm _ h
    have hr : Region.ready .any (l ++ tl).toArray (Array.replicate (l.length + k) true ++ Array.replicate 0 false) = [] := by
      rw [List.eq_nil_iff_forall_not_mem]
      intro i hi
      obtain ⟨h0, h1, _⟩ := ready_iff.1 hi
      simp only [List.size_toArray, List.length_append] at h0
      rw [Array.getD_eq_getD_getElem?] at h1
      simp [show i < l.length + k by omega] at h1
    rw [List.drop_eq_nil_of_le (by omega)] at h
    exact wpAny_done hr h fuel
  | succ m ih =>
    intro k fuel a w hm hf h
    obtain ⟨fuel, rfl⟩ : ∃ f, fuel = f + 1 := ⟨fuel - 1, by omega⟩
    have hk : k < tl.length := by omega
    have hTk := hT k (List.mem_range.2 hk)
    rw [List.getElem?_eq_getElem hk] at hTk
    simp only [Bool.and_eq_true, List.all_eq_true, decide_eq_true_eq] at hTk
    obtain ⟨⟨⟨hg, hd⟩, _⟩, _⟩ := hTk
    have hgd : ∀ d, (Array.replicate (l.length + k) true ++ Array.replicate (m + 1) false).getD d false = decide (d < l.length + k) := by
      intro d
      rw [Array.getD_eq_getD_getElem?, Array.getElem?_append]
      by_cases h1 : d < l.length + k
      · simp [h1]
      · simp only [Array.size_replicate, h1, if_false, Array.getElem?_replicate]
        split <;> simp
    have hgt : ∀ d, d < l.length + k + (m + 1) → (Array.replicate (l.length + k) true ++ Array.replicate (m + 1) false).getD d true = decide (d < l.length + k) := by
      intro d hdl
      rw [Array.getD_eq_getD_getElem?, Array.getElem?_append]
      by_cases h1 : d < l.length + k
      · simp [h1]
      · simp only [Array.size_replicate, h1, if_false, Array.getElem?_replicate]
        rw [if_pos (by omega)]; simp
    have hr : Region.ready .any (l ++ tl).toArray (Array.replicate (l.length + k) true ++ Array.replicate (m + 1) false) = [l.length + k] := by
      have hmem : ∀ i, i ∈ Region.ready .any (l ++ tl).toArray (Array.replicate (l.length + k) true ++ Array.replicate (m + 1) false) ↔ i = l.length + k := by
        intro i
        rw [ready_iff]
        constructor
        · rintro ⟨h0, h1, o, ho, h2⟩
          simp only [List.size_toArray, List.length_append] at h0
          rw [hgt i (by omega)] at h1
          have hge : ¬ i < l.length + k := by simpa using h1
          rcases Nat.lt_or_ge (l.length + k) i with hlt | hge2
          · exfalso
            obtain ⟨j, rfl⟩ : ∃ j, i = l.length + (j + 1) := ⟨i - l.length - 1, by omega⟩
            rw [late_tl] at ho
            have hTj := hT (j + 1) (List.mem_range.2 (by omega))
            rw [ho] at hTj
            simp only [Bool.and_eq_true, Bool.or_eq_true] at hTj
            obtain ⟨⟨_, hc⟩, _⟩ := hTj
            rcases hc with hc | hc
            · simp at hc
            · have hc' : l.length + j ∈ depsOf o := by simpa using hc
              have := h2 _ hc'
              rw [hgd] at this
              simp at this
              omega
          · omega
        · rintro rfl
          refine ⟨by simp; omega, by rw [hgt _ (by omega)]; simp, tl[k], by rw [late_tl, List.getElem?_eq_getElem hk], fun d hdd => ?_⟩
          rw [hgd]
          simpa using hd d hdd
      have hnd : (Region.ready .any (l ++ tl).toArray (Array.replicate (l.length + k) true ++ Array.replicate (m + 1) false)).Nodup := by
        unfold Region.ready
        exact List.Pairwise.filter _ List.nodup_range
      generalize Region.ready .any (l ++ tl).toArray (Array.replicate (l.length + k) true ++ Array.replicate (m + 1) false) = R at hmem hnd
      match R, hmem, hnd with
      | [], hmem, _ => exact absurd ((hmem (l.length + k)).2 rfl) (by simp)
      | [x], hmem, _ => rw [(hmem x).1 (by simp)]
      | x :: y :: r, hmem, hnd =>
        have e1 := (hmem x).1 (by simp)
        have e2 := (hmem y).1 (by simp)
        rw [e1, e2] at hnd
        simp at hnd
    refine wpAny_all hr (by simp) ?_
    intro i hi
    rw [List.mem_singleton] at hi
    subst hi
    have hset : (Array.replicate (l.length + k) true ++ Array.replicate (m + 1) false).setIfInBounds (l.length + k) true = Array.replicate (l.length + (k + 1)) true ++ Array.replicate m false := by
      apply Array.ext_getElem?
      intro j
      simp only [Array.getElem?_setIfInBounds, Array.getElem?_append, Array.getElem?_replicate, Array.size_append, Array.size_replicate]
      by_cases h1 : l.length + k = j
      · subst h1
        simp [show l.length + k < l.length + (k + 1) by omega]
      · rw [if_neg h1]
        by_cases h2 : j < l.length + k
        · simp [h2, show j < l.length + (k + 1) by omega]
        · have h3 : ¬ j < l.length + (k + 1) := by omega
          simp only [h2, h3, if_false]
          by_cases h4 : j - (l.length + k) < m + 1
          · rw [if_pos h4, if_pos (by omega)]
          · rw [if_neg h4, if_neg (by omega)]
    rw [hset]
    rw [List.drop_eq_getElem_cons hk, wpTail] at h
    unfold wpOp
    rw [late_tl, List.getElem?_eq_getElem hk]
    have hw : Region.wanted tl[k] (yielded (l ++ tl).toArray a.tmps) = true := by
      have : tl[k].guard = none := by simpa using hg
      simp [Region.wanted, this]
    simp only [hw, if_true]
    exact .inl (Oper.wp_mono (fun a' w' h' => ih (k + 1) fuel a' w' (by omega) (by omega) h') h)

theorem ready_all (hwf : wfDeps l = true) (listed : Array Bool) (hsz : listed.size = l.length) (hr : Region.ready .any l.toArray listed = []) : listed = Array.replicate l.length true := by
  have key : ∀ i, i < l.length → listed[i]? = some true := by
    intro i
    induction i using Nat.strongRecOn with
    | _ i ih =>
      intro hi
      have hil : i < listed.size := by omega
      have hgi : listed[i]? = some listed[i] := Array.getElem?_eq_getElem hil
      cases hb : listed[i] with
      | true => rw [hgi, hb]
      | false =>
        exfalso
        have hnot : i ∉ Region.ready .any l.toArray listed := by rw [hr]; simp
        refine hnot (ready_iff.2 ⟨by simpa using hi, by rw [Array.getD_eq_getD_getElem?, hgi, hb]; rfl, l[i], by simp [hi], fun d hd => ?_⟩)
        unfold wfDeps at hwf
        rw [List.all_eq_true] at hwf
        have hwi := hwf i (List.mem_range.2 hi)
        rw [List.getElem?_eq_getElem hi] at hwi
        simp only [Option.map_some, Option.getD_some, List.all_eq_true, decide_eq_true_eq] at hwi
        have := ih d (hwi d hd) (by have := hwi d hd; omega)
        rw [Array.getD_eq_getD_getElem?, this]; rfl
  apply Array.ext_getElem?
  intro i
  by_cases hi : i < l.length
  · rw [key i hi]; simp [hi]
  · simp [Array.getElem?_eq_none (show listed.size ≤ i by omega), hi]

theorem wpAny_late (hok : lateOk l tl = true) : ∀ (fuel : Nat) (listed : Array Bool) (a : Act) (w : World), listed.size = l.length →
    (∀ (j : Nat) (o : Oper), listed[j]? = some true → l[j]? = some o → ∀ d ∈ depsOf o, listed[d]? = some true) →
    wpAny P .any l.toArray (LateQ P Q tl) fuel listed a w → wpAny P .any (l ++ tl).toArray Q (fuel + tl.length) (listed ++ Array.replicate tl.length false) a w := by
  have hall := hok
  unfold lateOk at hall
  simp only [Bool.and_eq_true] at hall
  obtain ⟨⟨hwf, hG⟩, hT⟩ := hall
  rw [List.all_eq_true] at hT hG
  have hend : ∀ (fuel : Nat) (listed : Array Bool) (a : Act) (w : World), listed.size = l.length → tl.length ≤ fuel → Region.ready .any l.toArray listed = [] → wpTail P Q tl a w → wpAny P .any (l ++ tl).toArray Q fuel (listed ++ Array.replicate tl.length false) a w := by
    intro fuel listed a w hsz hf hr h
    rw [ready_all hwf listed hsz hr]
    exact wpAny_tail hok tl.length 0 fuel a w rfl hf h
  intro fuel
  induction fuel with
  | zero => intro listed a w hsz _ h; exact hend _ listed a w hsz (by omega) h.1 h.2
  | succ fuel ih =>
    intro listed a w hsz hcl h
    by_cases hr0 : Region.ready .any l.toArray listed = []
    · exact hend _ listed a w hsz (by omega) hr0 (h.1 hr0)
    have hap : ∀ i, i < l.length → (listed ++ Array.replicate tl.length false)[i]? = listed[i]? := fun i hi => by rw [Array.getElem?_append, if_pos (by omega)]
    have hdl : ∀ i o, l[i]? = some o → ∀ d ∈ depsOf o, d < i := by
      intro i o ho d hd
      unfold wfDeps at hwf
      rw [List.all_eq_true] at hwf
      have hil : i < l.length := (List.getElem?_eq_some_iff.1 ho).1
      have hwi := hwf i (List.mem_range.2 hil)
      rw [ho] at hwi
      simp only [Option.map_some, Option.getD_some, List.all_eq_true, decide_eq_true_eq] at hwi
      exact hwi d hd
    -- what may come up is of l
    have hsub : ∀ i, i ∈ Region.ready .any (l ++ tl).toArray (listed ++ Array.replicate tl.length false) → i ∈ Region.ready .any l.toArray listed := by
      intro i hi
      obtain ⟨h0, h1, o, ho, h2⟩ := ready_iff.1 hi
      simp only [List.size_toArray, List.length_append] at h0
      rcases Nat.lt_or_ge i l.length with hil | hil
      · rw [late_get hil] at ho
        refine ready_iff.2 ⟨by simpa using hil, by rw [Array.getD_eq_getD_getElem?, hap i hil] at h1; rw [Array.getD_eq_getD_getElem?]; exact h1, o, ho, fun d hd => ?_⟩
        have hdi := hdl i o (by simpa using ho) d hd
        have := h2 d hd
        rw [Array.getD_eq_getD_getElem?, hap d (by omega)] at this
        rw [Array.getD_eq_getD_getElem?]; exact this
      · exfalso
        obtain ⟨k, rfl⟩ : ∃ k, i = l.length + k := ⟨i - l.length, by omega⟩
        rw [late_tl] at ho
        have hTk := hT k (List.mem_range.2 (by omega))
        rw [ho] at hTk
        simp only [Bool.and_eq_true, List.all_eq_true] at hTk
        have hcov := hTk.2
        have hl : ∀ n i, l.length - i ≤ n → i < l.length → listed[i]? = some true := by
          intro n
          induction n with
          | zero => intro i h h'; omega
          | succ n ihn =>
            intro i hn hi
            have hc := hcov i (List.mem_range.2 hi)
            rw [Bool.or_eq_true] at hc
            rcases hc with hc | hc
            · have hc' : i ∈ depsOf o := by simpa using hc
              have := h2 i hc'
              rw [Array.getD_eq_getD_getElem?, hap i hi, Array.getElem?_eq_getElem (by omega)] at this
              rw [Array.getElem?_eq_getElem (by omega)]
              simpa using this
            · rw [List.any_eq_true] at hc
              obtain ⟨j, hj, hj2⟩ := hc
              rw [List.mem_range] at hj
              rw [List.getElem?_eq_getElem hj] at hj2
              simp only [Bool.and_eq_true, decide_eq_true_eq] at hj2
              have hji : i ∈ depsOf l[j] := by simpa using hj2.2
              exact hcl j l[j] (ihn j (by omega) hj) (List.getElem?_eq_getElem hj) i hji
        apply hr0
        rw [List.eq_nil_iff_forall_not_mem]
        intro i' hi'
        obtain ⟨q0, q1, _⟩ := ready_iff.1 hi'
        have q0' : i' < l.length := by simpa using q0
        rw [Array.getD_eq_getD_getElem?, hl l.length i' (by omega) q0'] at q1
        simp at q1
    rw [show fuel + 1 + tl.length = (fuel + tl.length) + 1 by omega]
    refine ⟨fun hr => ?_, fun i hi => ?_⟩
    · exfalso
      obtain ⟨i, r, hir⟩ := List.exists_cons_of_ne_nil hr0
      have him : i ∈ Region.ready .any l.toArray listed := by rw [hir]; simp
      obtain ⟨h0, h1, o, ho, h2⟩ := ready_iff.1 him
      have hil : i < l.length := by simpa using h0
      have : i ∈ Region.ready .any (l ++ tl).toArray (listed ++ Array.replicate tl.length false) := by
        refine ready_iff.2 ⟨by simp; omega, by rw [Array.getD_eq_getD_getElem?, hap i hil]; rw [Array.getD_eq_getD_getElem?] at h1; exact h1, o, by rw [late_get hil]; exact ho, fun d hd => ?_⟩
        have hdi := hdl i o (by simpa using ho) d hd
        have := h2 d hd
        rw [Array.getD_eq_getD_getElem?, hap d (by omega)]
        rw [Array.getD_eq_getD_getElem?] at this; exact this
      rw [hr] at this
      cases this
    · have hir := hsub i hi
      obtain ⟨h0, h1, o, ho, h2⟩ := ready_iff.1 hir
      have hil : i < l.length := by simpa using h0
      have hop := h.2 i hir
      have hset : (listed ++ Array.replicate tl.length false).setIfInBounds i true = listed.setIfInBounds i true ++ Array.replicate tl.length false := by
        apply Array.ext_getElem?
        intro j
        simp only [Array.getElem?_setIfInBounds, Array.getElem?_append, Array.size_append, Array.size_replicate, Array.size_setIfInBounds]
        by_cases h1 : i = j
        · subst h1
          rw [if_pos rfl, if_pos (by omega), if_pos (by omega), if_pos rfl, if_pos (by omega)]
        · rw [if_neg h1]
          by_cases h3 : j < listed.size
          · rw [if_pos h3, if_pos h3, if_neg h1]
          · rw [if_neg h3, if_neg h3]
      have hcl' : ∀ (j : Nat) (o' : Oper), (listed.setIfInBounds i true)[j]? = some true → l[j]? = some o' → ∀ d ∈ depsOf o', (listed.setIfInBounds i true)[d]? = some true := by
        intro j o' hj ho' d hd
        have hmono : ∀ (d : Nat), listed[d]? = some true → (listed.setIfInBounds i true)[d]? = some true := by
          intro d hd
          rw [Array.getElem?_setIfInBounds]
          split
          · rename_i e; subst e; rw [if_pos (by omega)]
          · exact hd
        apply hmono
        by_cases hij : i = j
        · subst hij
          have : o' = o := by
            have e1 : l.toArray[i]? = some o' := by simpa using ho'
            rw [ho] at e1; injection e1 with e1; exact e1.symm
          subst this
          have := h2 d hd
          rw [Array.getD_eq_getD_getElem?] at this
          cases hx : listed[d]? with
          | none => rw [hx] at this; simp at this
          | some b => rw [hx] at this; simp at this; rw [this]
        · rw [Array.getElem?_setIfInBounds, if_neg hij] at hj
          exact hcl j o' hj ho' d hd
      have hyl : Region.wanted o (yielded (l ++ tl).toArray a.tmps) = Region.wanted o (yielded l.toArray a.tmps) := by
        have hgo := hG o (by have e1 : l[i]? = some o := by simpa using ho
                             exact List.mem_of_getElem? e1)
        unfold Region.wanted
        cases hg : o.guard with
        | none => rfl
        | some g =>
          obtain ⟨j, b⟩ := g
          rw [hg] at hgo
          have hj : j < l.length := by simpa using hgo
          simp only [yielded, late_get hj]
      unfold wpOp at hop ⊢
      rw [late_get hil, ho]
      rw [ho] at hop
      simp only at hop ⊢
      rw [hyl]
      split
      · rename_i hw
        rw [if_pos hw] at hop
        rcases hop with hop | ⟨ha, a', w', hl⟩
        · refine .inl (Oper.wp_late (fun a' w' h' => ?_) hop)
          rw [hset]
          exact ih _ a' w' (by simpa using hsz) hcl' h'
        · exact .inr ⟨ha, a', w', hl⟩
      · rename_i hw
        rw [if_neg hw] at hop
        rw [hset]
        exact ih _ _ w (by simpa using hsz) hcl' hop

/-- what only reads is taken first -/
theorem late_take {ops : Array Oper} {S : World → Prop} {i : Nat} {oi : Oper} {d : Option Tmp} {v : Value} {fuel : Nat} {listed : Array Bool} {a : Act} {w : World} (hi : ops[i]? = some oi) (hd : oi.dst = d)
    (hs : Region.noSelect ops = true) (hf : Region.free .any ops listed i = true) (hr : (Region.ready .any ops listed).contains i = true)
    (hQL : ∀ (c : _) (a : Act) (d : Option Tmp) (v : Value) (w : World), LateQ P Q tl (.panic c) (a.put d v) w → LateQ P Q tl (.panic c) a w) (hw : Region.wanted oi (yielded ops a.tmps) = true) (hy : ∀ w, S w → (execOp a.eval oi).run P w = .ok (.value v) w) (hS : S w)
    (h : wpAnyH P .any ops (LateQ P Q tl) S fuel (listed.setIfInBounds i true) (a.put d v) w) : wpAnyH P .any ops (LateQ P Q tl) S (fuel + 1) listed a w :=
  wpAnyH_take hi hs hf hr (fun c a w => hQL c a _ _ w) (.inl ⟨hw, hy⟩) hS (hd ▸ h)

/-- A REGION WHOSE LAST OPERATIONS WAIT FOR ALL OTHERS. -/
theorem region_late {S : World → Prop} {id n : Nat} {ops : Array Oper} {a : Act} {w : World} (hops : ops = (l ++ tl).toArray) (hn : l.length = n) (hm : P.follows .mixedOrders = true) (hok : lateOk l tl = true) (hS : S w.drew)
    (h : (∀ (c : _) (a : Act) (d : Option Tmp) (v : Value) (w : World), LateQ P Q tl (.panic c) (a.put d v) w → LateQ P Q tl (.panic c) a w) → S w.drew → wpAnyH P .any l.toArray (LateQ P Q tl) S n (Array.replicate n false) a w.drew) : (Code.region id ops true).wp P Q a w := by
  subst hops hn
  refine wp_region_any hm ?_
  have := wpAny_late (P := P) (Q := Q) hok l.length (Array.replicate l.length false) a w.drew (by simp) (fun j o hj => by simp [Array.getElem?_replicate] at hj) (wpAny_of_held _ _ _ _ (h (fun _ _ _ _ _ h => h) hS))
  have e1 : Array.replicate l.length false ++ Array.replicate tl.length false = Array.replicate (l ++ tl).toArray.size false := by
    rw [Array.replicate_append_replicate]; simp
  rw [e1] at this
  have e2 : l.length + tl.length = (l ++ tl).toArray.size := by simp
  rw [e2] at this
  exact this
end
theorem wpTail_nil {P : Program} {Q : Exit → Act → World → Prop} {a : Act} {w : World} (h : Q .normal a w) : wpTail P Q [] a w := h
theorem bcellG {W w1 : World} {r : Option Nat} (hg : W.grownBy w1 r) : (∀ b o, b < W.heap.size → ¬ r = some b → w1.cell? ⟨b, o, none⟩ = W.cell? ⟨b, o, none⟩) ∧ (∀ b o, b < W.heap.size → ¬ r = some b → w1.frozen? ⟨b, o, none⟩ = W.frozen? ⟨b, o, none⟩) :=
  ⟨fun b o h hn => World.cell?_of_block (a := ⟨b, o, none⟩) (hg.block b h fun e => hn e.symm), fun b o h hn => World.frozen?_of_block (a := ⟨b, o, none⟩) (hg.block b h fun e => hn e.symm)⟩
end Go.Proofs.YtooocakkjdhfiaaDoor
