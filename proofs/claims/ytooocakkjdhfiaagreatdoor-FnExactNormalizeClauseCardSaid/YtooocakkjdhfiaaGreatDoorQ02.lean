/- Several texts in one file. -/
import Derived.WalkKit
import Derived.Orders
import Derived.KernelRfl
import Derived.Below
import Derived.Test.YtooocakkjdhfiaaGreatDoorRows
import Derived.Test.YtooocakkjdhfiaaGreatDoorQ01
import Derived.WalkSpells
import Derived.WalkLawsBesides
/- A region whose order is drawn: each operation keeps a fact, in whatever order; behind the region all facts hold. -/
namespace Go.Proofs.YtooocakkjdhfiaaGreatDoor
set_option maxRecDepth 100000

/-- the ending is a return, and R holds of what is returned -/
def After (R : Value → World → Prop) (e : Ending) (w : World) : Prop := ∃ v, e = .returned v ∧ R v w
/-- the world goes on by E, and the value keeps F -/
def Both (E : World → World → Prop) (F : Value → World → Prop) (w : World) (v : Value) (w' : World) : Prop := E w w' ∧ F v w'

/-- What one operation does, its operands' values given by ρ. -/
def Does (P : Program) (o : Oper) (ρ : Operand → Value) (w : World) (R : Value → World → Prop) : Prop :=
  match (execOp ρ o).run P w with
  | .ok (.value v) w' => R v w'
  | .ok .skip w' => R undef w'
  | .ok (.enter f args) w' => Calls P f args w' (After R)
  | _ => False

def depsOf (o : Oper) : List Nat := o.after.toList.filterMap fun e => if Region.binds .any e then some e.on else none

/-- the slot that operation j writes -/
def dstOf (l : List Oper) (j : Nat) : Option Tmp := (l[j]?).bind (·.dst)

/-- the facts of the operations js -/
def Facts (l : List Oper) (F : Nat → Value → World → Prop) (ρ : Operand → Value) (w : World) : List Nat → Prop
  | [] => True
  | j :: js => (match dstOf l j with | some t => F j (ρ (.tmp t)) w | none => ∃ v, F j v w) ∧ Facts l F ρ w js

theorem Facts.of {l : List Oper} {F : Nat → Value → World → Prop} {ρ : Operand → Value} {w : World} : ∀ (js : List Nat), (∀ j ∈ js, match dstOf l j with | some t => F j (ρ (.tmp t)) w | none => ∃ v, F j v w) → Facts l F ρ w js
  | [], _ => trivial
  | j :: js, h => ⟨h j (by simp), Facts.of js fun i hi => h i (by simp [hi])⟩

/-- what operation i must keep -/
def Ob (P : Program) (E : World → World → Prop) (w0 : World) (a0 : Act) (l : List Oper) (F : Nat → Value → World → Prop) (i : Nat) (o : Oper) : Prop :=
  ∀ (ρ : Operand → Value) (w : World), E w0 w → (∀ x, (∀ t ∈ l.filterMap (·.dst), x ≠ .tmp t) → ρ x = a0.eval x) → Facts l F ρ w (depsOf o) →
    match o.guard with
    | none => Does P o ρ w (Both E (F i) w)
    | some (j, want) => ∃ t, dstOf l j = some t ∧ ((∃ b, ρ (.tmp t) = .bool b ∧ (b = want → Does P o ρ w (Both E (F i) w)) ∧ (b ≠ want → F i undef w)) ∨ (ρ (.tmp t) = undef ∧ F i undef w))

def ObAll (P : Program) (E : World → World → Prop) (w0 : World) (a0 : Act) (l : List Oper) (F : Nat → Value → World → Prop) : Nat → List Oper → Prop
  | _, [] => True
  | i, o :: os => Ob P E w0 a0 l F i o ∧ ObAll P E w0 a0 l F (i + 1) os

theorem ObAll.get {P : Program} {E : World → World → Prop} {w0 : World} {a0 : Act} {l : List Oper} {F : Nat → Value → World → Prop} : ∀ (os : List Oper) (k : Nat), ObAll P E w0 a0 l F k os → ∀ i o, os[i]? = some o → Ob P E w0 a0 l F (k + i) o
  | [], _, _, i, o, h => by simp at h
  | o' :: os, k, ⟨h0, h1⟩, 0, o, h => by simp at h; subst h; exact h0
  | o' :: os, k, ⟨h0, h1⟩, i + 1, o, h => by
    have := ObAll.get os (k + 1) h1 i o (by simpa using h)
    rwa [show k + 1 + i = k + (i + 1) by omega] at this

theorem Does.wp {P : Program} {o : Oper} {a : Act} {w : World} {R : Value → World → Prop} {K : Act → World → Prop} {Q : Exit → Act → World → Prop} (h : Does P o a.eval w R) (hK : ∀ v w', R v w' → K (a.put o.dst v) w') : o.wp P a w K Q := by
  unfold Does at h
  unfold Oper.wp
  generalize (execOp a.eval o).run P w = r at *
  cases r with
  | ok n w' =>
    cases n <;> simp only [Oper.upon] at h ⊢ <;>
      first
        | exact hK _ _ h
        | (refine Calls.mono h ?_; rintro e w'' ⟨v, rfl, hr⟩; exact hK _ _ hr)
        | exact h.elim
  | halt x w' => exact h.elim

def wfDeps (l : List Oper) : Bool := (List.range l.length).all fun i => ((l[i]?).map fun o => (depsOf o).all (· < i)).getD true

def putAll (l : List Oper) (V : Nat → Value) (i : Nat) (a : Act) : Act :=
  match l with
  | [] => a
  | o :: os => putAll os V (i + 1) (a.put o.dst (V i))

theorem Act.getD_put (a : Act) (d : Option Tmp) (v : Value) (t : Nat) : (a.put d v).tmps[t]? = if d = some t ∧ t < a.tmps.size then some v else a.tmps[t]? := by
  cases d with
  | none => simp [Act.put]
  | some d =>
    simp only [Act.put, Option.some.injEq]
    rw [Array.getElem?_setIfInBounds]
    by_cases h : d = t
    · subst h
      by_cases hl : d < a.tmps.size
      · simp [hl]
      · simp [hl]
    · simp [h]
theorem Act.size_put (a : Act) (d : Option Tmp) (v : Value) : (a.put d v).tmps.size = a.tmps.size := by
  cases d <;> simp [Act.put]
theorem Act.defers_put (a : Act) (d : Option Tmp) (v : Value) : (a.put d v).defers = a.defers := by
  cases d <;> simp [Act.put]

theorem putAll_spec : ∀ (l : List Oper) (V : Nat → Value) (k : Nat) (a : Act), (l.filterMap (·.dst)).Nodup →
    (putAll l V k a).tmps.size = a.tmps.size ∧ (putAll l V k a).defers = a.defers ∧
    (∀ t, (∀ i, dstOf l i ≠ some t) → (putAll l V k a).tmps[t]? = a.tmps[t]?) ∧
    (∀ i t, dstOf l i = some t → t < a.tmps.size → (putAll l V k a).tmps[t]? = some (V (k + i)))
  | [], V, k, a, _ => ⟨rfl, rfl, fun _ _ => rfl, fun i t h => by simp [dstOf] at h⟩
  | o :: os, V, k, a, hn => by
    have hn' : (os.filterMap (·.dst)).Nodup := by
      cases hd : o.dst with
      | none => simpa [List.filterMap_cons, hd] using hn
      | some t => simp only [List.filterMap_cons, hd] at hn; exact (List.nodup_cons.1 hn).2
    obtain ⟨h0, h1, h2, h3⟩ := putAll_spec os V (k + 1) (a.put o.dst (V k)) hn'
    refine ⟨by rw [putAll, h0, Act.size_put], by rw [putAll, h1, Act.defers_put], fun t ht => ?_, fun i t hi hlt => ?_⟩
    · rw [putAll, h2 t (fun i => by have := ht (i + 1); simpa [dstOf] using this), Act.getD_put, if_neg]
      rintro ⟨e, _⟩
      exact ht 0 (by simp [dstOf, e])
    · rw [putAll]
      cases i with
      | zero =>
        have hd : o.dst = some t := by simpa [dstOf] using hi
        rw [h2 t, Act.getD_put, if_pos ⟨hd, hlt⟩]
        · rfl
        · intro i e
          simp only [List.filterMap_cons, hd] at hn
          refine (List.nodup_cons.1 hn).1 ?_
          rw [List.mem_filterMap]
          simp only [dstOf, Option.bind_eq_some_iff] at e
          obtain ⟨o', ho', he⟩ := e
          exact ⟨o', List.mem_of_getElem? ho', he⟩
      | succ i =>
        have := h3 i t (by simpa [dstOf] using hi) (by rw [Act.size_put]; exact hlt)
        rw [this]; congr 2; omega

structure Inv (E : World → World → Prop) (w0 : World) (a0 : Act) (l : List Oper) (F : Nat → Value → World → Prop) (listed : Array Bool) (a : Act) (w : World) : Prop where
  sz : listed.size = l.length
  ext : E w0 w
  defers : a.defers = a0.defers
  size : a.tmps.size = a0.tmps.size
  frame : ∀ t, (∀ i, dstOf l i = some t → listed[i]? ≠ some true) → a.tmps[t]? = a0.tmps[t]?
  fact : ∀ i, listed[i]? = some true → match dstOf l i with | some t => F i (a.tmps.getD t undef) w | none => ∃ v, F i v w

theorem nodup_dst {l : List Oper} (hn : (l.filterMap (·.dst)).Nodup) : ∀ i j t, dstOf l i = some t → dstOf l j = some t → i = j := by
  induction l with
  | nil => intro i j t h; simp [dstOf] at h
  | cons o os ih =>
    have hn' : (os.filterMap (·.dst)).Nodup := by
      cases hd : o.dst with
      | none => simpa [List.filterMap_cons, hd] using hn
      | some t => simp only [List.filterMap_cons, hd] at hn; exact (List.nodup_cons.1 hn).2
    have key : ∀ j t, o.dst = some t → dstOf os j = some t → False := by
      intro j t hd e
      simp only [List.filterMap_cons, hd] at hn
      refine (List.nodup_cons.1 hn).1 ?_
      rw [List.mem_filterMap]
      simp only [dstOf, Option.bind_eq_some_iff] at e
      obtain ⟨o', ho', he⟩ := e
      exact ⟨o', List.mem_of_getElem? ho', he⟩
    intro i j t hi hj
    cases i with
    | zero =>
      cases j with
      | zero => rfl
      | succ j => exact (key j t (by simpa [dstOf] using hi) (by simpa [dstOf] using hj)).elim
    | succ i =>
      cases j with
      | zero => exact (key i t (by simpa [dstOf] using hj) (by simpa [dstOf] using hi)).elim
      | succ j => exact congrArg (· + 1) (ih hn' i j t (by simpa [dstOf] using hi) (by simpa [dstOf] using hj))

theorem getD_of {a b : Act} {t : Nat} (h : a.tmps[t]? = b.tmps[t]?) : a.tmps.getD t undef = b.tmps.getD t undef := by
  simp only [Array.getD_eq_getD_getElem?, h]

theorem yielded_of {ops : Array Oper} {a : Act} {j t : Nat} {b : Bool} (hd : (ops[j]?).bind (·.dst) = some t) (hv : a.tmps.getD t undef = .bool b) : yielded ops a.tmps j = some b := by
  unfold yielded
  rw [hd]
  simp only [Option.bind_some]
  rw [Array.getD_eq_getD_getElem?] at hv
  cases hx : a.tmps[t]? with
  | none => rw [hx] at hv; simp [undef] at hv
  | some v => rw [hx] at hv; simp at hv; subst hv; rfl

theorem yielded_undef {ops : Array Oper} {a : Act} {j t : Nat} (hd : (ops[j]?).bind (·.dst) = some t) (hv : a.tmps.getD t undef = undef) : yielded ops a.tmps j = none := by
  unfold yielded
  rw [hd]
  simp only [Option.bind_some]
  rw [Array.getD_eq_getD_getElem?] at hv
  cases hx : a.tmps[t]? with
  | none => rfl
  | some v => rw [hx] at hv; simp at hv; subst hv; rfl

theorem wpAny_facts {P : Program} {E : World → World → Prop} {w0 : World} {a0 : Act} {l : List Oper} {F : Nat → Value → World → Prop} {Q : Exit → Act → World → Prop}
    (htrans : ∀ a b c, E a b → E b c → E a c) (hrefl : ∀ a, E a a) (hF : ∀ i v w w', E w0 w → E w w' → F i v w → F i v w')
    (hn : (l.filterMap (·.dst)).Nodup) (hlt : ∀ i t, dstOf l i = some t → t < a0.tmps.size) (hwf : wfDeps l = true) (hob : ObAll P E w0 a0 l F 0 l)
    (hend : ∀ a w, Inv E w0 a0 l F (Array.replicate l.length true) a w → Q .normal a w) :
    ∀ (fuel : Nat) (listed : Array Bool) (a : Act) (w : World), (listed.toList.filter (· == false)).length ≤ fuel → Inv E w0 a0 l F listed a w → wpAny P .any l.toArray Q fuel listed a w := by
  have hall : ∀ (listed : Array Bool), listed.size = l.length → Region.ready .any l.toArray listed = [] → listed = Array.replicate l.length true := by
    intro listed hsz hr
    have key : ∀ i, i < l.length → listed[i]? = some true := by
      intro i
      induction i using Nat.strongRecOn with
      | _ i ih =>
        intro hi
        have hnot : i ∉ Region.ready .any l.toArray listed := by rw [hr]; simp
        unfold Region.ready at hnot
        simp only [List.mem_filter, List.mem_range, List.size_toArray, hi, true_and, Bool.and_eq_true, Bool.not_eq_true', not_and] at hnot
        have hw := hwf
        unfold wfDeps at hw
        rw [List.all_eq_true] at hw
        have hwi := hw i (List.mem_range.2 hi)
        have ho : l[i]? = some l[i] := List.getElem?_eq_getElem hi
        rw [ho] at hwi
        simp only [Option.map_some, Option.getD_some, List.all_eq_true, decide_eq_true_eq] at hwi
        have hil : i < listed.size := by omega
        have hgi : listed[i]? = some listed[i] := Array.getElem?_eq_getElem hil
        cases hb : listed[i] with
        | true => rw [hgi, hb]
        | false =>
          exfalso
          refine hnot (by simp [Array.getD, hil, hb]) ?_
          have : (l.toArray)[i]? = some l[i] := by simp
          rw [this]
          simp only [Option.map_some, Option.getD_some]
          rw [Array.all_eq_true']
          intro e he
          by_cases hbd : Region.binds .any e = true
          · have hd : e.on ∈ depsOf l[i] := by
              unfold depsOf
              rw [List.mem_filterMap]
              exact ⟨e, by simpa using he, by simp [hbd]⟩
            have hlt' := hwi e.on hd
            have := ih e.on hlt' (by omega)
            rw [Array.getD_eq_getD_getElem?, this]
            simp
          · simp [hbd]
    apply Array.ext_getElem?
    intro i
    by_cases hi : i < l.length
    · rw [key i hi]; simp [hi]
    · simp [Array.getElem?_eq_none (show listed.size ≤ i by omega), hi]
  intro fuel
  induction fuel with
  | zero =>
    intro listed a w hf hinv
    have hr : Region.ready .any l.toArray listed = [] := by
      unfold Region.ready
      rw [List.filter_eq_nil_iff]
      intro i hi
      simp only [List.mem_range, List.size_toArray] at hi
      have hil : i < listed.size := by rw [hinv.sz]; exact hi
      have : listed[i] = true := by
        have h0 : listed.toList.filter (· == false) = [] := List.length_eq_zero_iff.1 (Nat.le_zero.1 hf)
        rw [List.filter_eq_nil_iff] at h0
        have := h0 listed[i] (by simp)
        simpa using this
      simp [Array.getD, hil, this]
    exact ⟨hr, hend a w (hall listed hinv.sz hr ▸ hinv)⟩
  | succ fuel ih =>
    intro listed a w hf hinv
    refine ⟨fun hr => hend a w (hall listed hinv.sz hr ▸ hinv), fun i hi => ?_⟩
    unfold Region.ready at hi
    simp only [List.mem_filter, List.mem_range, List.size_toArray, Bool.and_eq_true, Bool.not_eq_true'] at hi
    obtain ⟨hil, hun, hdeps⟩ := hi
    have ho : l[i]? = some l[i] := List.getElem?_eq_getElem hil
    have hoA : (l.toArray)[i]? = some l[i] := by simp
    rw [hoA] at hdeps
    simp only [Option.map_some, Option.getD_some, Array.all_eq_true'] at hdeps
    have hisz : i < listed.size := by rw [hinv.sz]; exact hil
    have hob' := ObAll.get l 0 hob i l[i] ho
    rw [Nat.zero_add] at hob'
    have hdep : ∀ j ∈ depsOf l[i], listed[j]? = some true := by
      intro j hj
      unfold depsOf at hj
      rw [List.mem_filterMap] at hj
      obtain ⟨e, he, hx⟩ := hj
      split at hx
      · rename_i hb
        injection hx with hx; subst hx
        have := hdeps e (by simpa using he)
        simp only [hb, Bool.not_true, Bool.false_or] at this
        rw [Array.getD_eq_getD_getElem?] at this
        cases hg : listed[e.on]? with
        | none => rw [hg] at this; simp at this
        | some b => rw [hg] at this; simp at this; rw [this]
      · cases hx
    have hfr : ∀ x, (∀ t ∈ l.filterMap (·.dst), x ≠ .tmp t) → a.eval x = a0.eval x := by
      intro x hx
      cases x with
      | tmp t =>
        refine getD_of (hinv.frame t fun j hj => ?_)
        refine absurd rfl (hx t ?_)
        rw [List.mem_filterMap]
        simp only [dstOf, Option.bind_eq_some_iff] at hj
        obtain ⟨o', ho', he⟩ := hj
        exact ⟨o', List.mem_of_getElem? ho', he⟩
      | _ => rfl
    have hfacts : Facts l F a.eval w (depsOf l[i]) := Facts.of _ fun j hj => hinv.fact j (hdep j hj)
    have hob'' := hob' a.eval w hinv.ext hfr hfacts
    have hunl : listed[i]? = some false := by
      rw [Array.getElem?_eq_getElem hisz]
      simp only [Array.getD, hisz, dif_pos] at hun
      simpa using hun
    -- the next state
    have hnext : ∀ v w', E w w' → F i v w' → wpAny P .any l.toArray Q fuel (listed.setIfInBounds i true) (a.put l[i].dst v) w' := by
      intro v w' he hv
      have hcount : (((listed.setIfInBounds i true).toList).filter (· == false)).length ≤ fuel := by
        rw [Array.toList_setIfInBounds]
        have hl' : listed.toList[i]? = some false := by simpa using hunl
        have : ∀ (L : List Bool) (i : Nat), L[i]? = some false → ((L.set i true).filter (· == false)).length + 1 = (L.filter (· == false)).length := by
          intro L
          induction L with
          | nil => intro i h; simp at h
          | cons b L ihL =>
            intro i h
            cases i with
            | zero => simp at h; subst h; simp
            | succ i =>
              have := ihL i (by simpa using h)
              cases b <;> simp at this ⊢ <;> omega
        have := this _ _ hl'
        omega
      refine ih _ _ _ hcount ⟨by simpa using hinv.sz, htrans _ _ _ hinv.ext he, by rw [Act.defers_put]; exact hinv.defers, by rw [Act.size_put]; exact hinv.size, fun t ht => ?_, fun j hj => ?_⟩
      · rw [Act.getD_put, if_neg]
        · refine hinv.frame t fun j hj hlj => ht j hj ?_
          rw [Array.getElem?_setIfInBounds]
          split
          · rename_i e; simp [hlj] at *
          · exact hlj
        · rintro ⟨e, _⟩
          refine ht i (by simp [dstOf, ho, e]) ?_
          rw [Array.getElem?_setIfInBounds]
          simp [hisz]
      · by_cases hij : i = j
        · subst hij
          have hd : dstOf l i = l[i].dst := by simp [dstOf, ho]
          rw [hd]
          cases hdst : l[i].dst with
          | none => exact ⟨v, hv⟩
          | some t =>
            have htl : t < a.tmps.size := by rw [hinv.size]; exact hlt i t (by rw [hd, hdst])
            show F i ((a.put (some t) v).tmps.getD t undef) w'
            rw [Array.getD_eq_getD_getElem?, Act.getD_put, if_pos ⟨rfl, htl⟩]
            exact hv
        · rw [Array.getElem?_setIfInBounds, if_neg hij] at hj
          have hold := hinv.fact j hj
          cases hdst : dstOf l j with
          | none =>
            rw [hdst] at hold
            obtain ⟨u, hu⟩ := hold
            exact ⟨u, hF j u w w' hinv.ext he hu⟩
          | some t =>
            rw [hdst] at hold
            show F j ((a.put l[i].dst v).tmps.getD t undef) w'
            have hne : ¬ (l[i].dst = some t ∧ t < a.tmps.size) := by
              rintro ⟨e, _⟩
              exact hij (nodup_dst hn i j t (by simp [dstOf, ho, e]) hdst)
            rw [Array.getD_eq_getD_getElem?, Act.getD_put, if_neg hne, ← Array.getD_eq_getD_getElem?]
            exact hF j _ w w' hinv.ext he hold
    unfold wpOp
    rw [hoA]
    show if Region.wanted l[i] (yielded l.toArray a.tmps) = true then _ else _
    cases hg : l[i].guard with
    | none =>
      rw [hg] at hob''
      have hwt : Region.wanted l[i] (yielded l.toArray a.tmps) = true := by simp [Region.wanted, hg]
      rw [if_pos hwt]
      exact .inl (Does.wp hob'' fun v w' ⟨h1, h2⟩ => hnext v w' h1 h2)
    | some g =>
      obtain ⟨j, want⟩ := g
      rw [hg] at hob''
      obtain ⟨t, hd, ⟨b, hv, hyes, hno⟩ | ⟨hv, hno⟩⟩ := hob''
      rotate_left
      · have hy : yielded l.toArray a.tmps j = none := yielded_undef (t := t) (by simpa [dstOf] using hd) hv
        have hwt : ¬ Region.wanted l[i] (yielded l.toArray a.tmps) = true := by simp [Region.wanted, hg, hy]
        rw [if_neg hwt]
        exact hnext undef w (hrefl w) hno
      have hy : yielded l.toArray a.tmps j = some b := yielded_of (t := t) (by simpa [dstOf] using hd) hv
      by_cases hbw : b = want
      · have hwt : Region.wanted l[i] (yielded l.toArray a.tmps) = true := by simp [Region.wanted, hg, hy, hbw]
        rw [if_pos hwt]
        exact .inl (Does.wp (hyes hbw) fun v w' ⟨h1, h2⟩ => hnext v w' h1 h2)
      · have hwt : ¬ Region.wanted l[i] (yielded l.toArray a.tmps) = true := by simp [Region.wanted, hg, hy, hbw]
        rw [if_neg hwt]
        exact hnext undef w (hrefl w) (hno hbw)

/-- A REGION THAT DRAWS ITS ORDER: each operation keeps its fact, whatever has been done besides; behind the region all facts hold. -/
theorem wp_region_facts {P : Program} {id : Nat} {w : World} {a0 : Act} {l : List Oper} {Q : Exit → Act → World → Prop}
    (E : World → World → Prop) (F : Nat → Value → World → Prop) (hm : P.follows .mixedOrders = true)
    (hn : (l.filterMap (·.dst)).Nodup) (hlt : ∀ t ∈ l.filterMap (·.dst), t < a0.tmps.size) (hwf : wfDeps l = true)
    (htrans : ∀ a b c, E a b → E b c → E a c) (hrefl : ∀ a, E a a) (hF : ∀ i v w1 w2, E w.drew w1 → E w1 w2 → F i v w1 → F i v w2)
    (hob : ObAll P E w.drew a0 l F 0 l)
    (hend : ∀ (V : Nat → Value) (w' : World), E w.drew w' → (∀ i, i < l.length → F i (V i) w') → Q .normal (putAll l V 0 a0) w') :
    (Code.region id l.toArray true).wp P Q a0 w := by
  refine wp_region_any hm ?_
  have hlt' : ∀ i t, dstOf l i = some t → t < a0.tmps.size := fun i t h => hlt t (by
    rw [List.mem_filterMap]
    simp only [dstOf, Option.bind_eq_some_iff] at h
    obtain ⟨o', ho', he⟩ := h
    exact ⟨o', List.mem_of_getElem? ho', he⟩)
  have hsz : (l.toArray).size = l.length := by simp
  rw [hsz]
  refine wpAny_facts htrans hrefl hF hn hlt' hwf hob (fun a w' hinv => ?_) l.length (Array.replicate l.length false) a0 w.drew ?_ ⟨by simp, hrefl _, rfl, rfl, fun _ _ => rfl, fun i hi => ?_⟩
  · classical
    have hfact : ∀ i, i < l.length → ∃ v, F i v w' ∧ ∀ t, dstOf l i = some t → a.tmps.getD t undef = v := by
      intro i hi
      have := hinv.fact i (by simp [hi])
      cases hd : dstOf l i with
      | none => rw [hd] at this; obtain ⟨v, hv⟩ := this; exact ⟨v, hv, fun t h => by cases h⟩
      | some t => rw [hd] at this; exact ⟨_, this, fun t' h => by injection h with h; rw [h]⟩
    let V : Nat → Value := fun i => if h : i < l.length then Classical.choose (hfact i h) else undef
    have hV : ∀ i (h : i < l.length), F i (V i) w' ∧ ∀ t, dstOf l i = some t → a.tmps.getD t undef = V i := by
      intro i h
      have := Classical.choose_spec (hfact i h)
      simp only [V, h, dif_pos]
      exact this
    have ha : a = putAll l V 0 a0 := by
      obtain ⟨h0, h1, h2, h3⟩ := putAll_spec l V 0 a0 hn
      have htm : a.tmps = (putAll l V 0 a0).tmps := by
        apply Array.ext_getElem?
        intro t
        by_cases hex : ∃ i, dstOf l i = some t
        · obtain ⟨i, hi⟩ := hex
          have hil : i < l.length := by
            rcases Nat.lt_or_ge i l.length with h | h
            · exact h
            · simp [dstOf, List.getElem?_eq_none h] at hi
          have htl := hlt' i t hi
          rw [h3 i t hi htl, Nat.zero_add, ← (hV i hil).2 t hi, Array.getD_eq_getD_getElem?, Array.getElem?_eq_getElem (by rw [hinv.size]; exact htl)]
          simp
        · rw [h2 t (fun i h => hex ⟨i, h⟩)]
          exact hinv.frame t (fun i h => (hex ⟨i, h⟩).elim)
      have hde : a.defers = (putAll l V 0 a0).defers := by rw [h1]; exact hinv.defers
      cases a
      cases hp : putAll l V 0 a0
      rw [hp] at htm hde
      simp only at htm hde
      subst htm hde
      rfl
    rw [ha]
    exact hend V w' hinv.ext fun i hi => (hV i hi).1
  · simp
  · simp [Array.getElem?_replicate] at hi

/-- the facts of the operations js, of the values V -/
def FactsV (F : Nat → Value → World → Prop) (V : Nat → Value) (w : World) : List Nat → Prop
  | [] => True
  | j :: js => F j (V j) w ∧ FactsV F V w js

/-- what operation i must keep, the frame written out over the values V -/
def ObV (P : Program) (C : World → Prop) (E : World → World → Prop) (A : (Nat → Value) → Act) (F : Nat → Value → World → Prop) (i : Nat) (o : Oper) : Prop :=
  ∀ (V : Nat → Value) (w : World), C w → FactsV F V w (depsOf o) →
    match o.guard with
    | none => Does P o (A V).eval w (Both E (F i) w)
    | some (j, want) => (∃ b, V j = .bool b ∧ (b = want → Does P o (A V).eval w (Both E (F i) w)) ∧ (b ≠ want → F i undef w)) ∨ (V j = undef ∧ F i undef w)

def ObAllV (P : Program) (C : World → Prop) (E : World → World → Prop) (A : (Nat → Value) → Act) (F : Nat → Value → World → Prop) : Nat → List Oper → Prop
  | _, [] => True
  | i, o :: os => ObV P C E A F i o ∧ ObAllV P C E A F (i + 1) os

theorem ObAllV.mono {P : Program} {C C' : World → Prop} {E : World → World → Prop} {A : (Nat → Value) → Act} {F : Nat → Value → World → Prop} (hc : ∀ w, C' w → C w) : ∀ (os : List Oper) (k : Nat), ObAllV P C E A F k os → ObAllV P C' E A F k os
  | [], _, _ => trivial
  | _ :: os, k, ⟨h0, h1⟩ => ⟨fun V w hw => h0 V w (hc w hw), ObAllV.mono hc os (k + 1) h1⟩

/-- a guard's operation writes a slot -/
def wfGuards (l : List Oper) : Bool := l.all fun o => match o.guard with | none => true | some (j, _) => (dstOf l j).isSome

theorem ObAllV.to {P : Program} {E : World → World → Prop} {w0 : World} {a0 : Act} {A : (Nat → Value) → Act} {l : List Oper} {F : Nat → Value → World → Prop}
    (hn : (l.filterMap (·.dst)).Nodup) (hlt : ∀ i t, dstOf l i = some t → t < a0.tmps.size) (hA : ∀ V, putAll l V 0 a0 = A V) (hg : wfGuards l = true) :
    ∀ (os : List Oper) (k : Nat), (∀ i o, os[i]? = some o → l[k + i]? = some o) → ObAllV P (E w0) E A F k os → ObAll P E w0 a0 l F k os
  | [], _, _, _ => trivial
  | o :: os, k, hl, ⟨h0, h1⟩ => by
    refine ⟨?_, ObAllV.to hn hlt hA hg os (k + 1) (fun i o' h => by have := hl (i + 1) o' (by simpa using h); rwa [show k + 1 + i = k + (i + 1) by omega]) h1⟩
    intro ρ w hE hfr hfacts
    classical
    let V : Nat → Value := fun j => match dstOf l j with | some t => ρ (.tmp t) | none => if h : ∃ v, F j v w then Classical.choose h else undef
    have hρ : (A V).eval = ρ := by
      rw [← hA]
      obtain ⟨s0, s1, s2, s3⟩ := putAll_spec l V 0 a0 hn
      funext x
      by_cases hx : ∃ j t, dstOf l j = some t ∧ x = .tmp t
      · obtain ⟨j, t, hd, rfl⟩ := hx
        show (putAll l V 0 a0).tmps.getD t undef = _
        rw [Array.getD_eq_getD_getElem?, s3 j t hd (hlt j t hd), Nat.zero_add]
        simp only [V, hd, Option.getD_some]
      · have hx' : ∀ t ∈ l.filterMap (·.dst), x ≠ .tmp t := by
          intro t ht e
          rw [List.mem_filterMap] at ht
          obtain ⟨o', ho', he⟩ := ht
          obtain ⟨j, hj⟩ := List.mem_iff_getElem?.1 ho'
          exact hx ⟨j, t, by simp [dstOf, hj, he], e⟩
        rw [hfr x hx']
        cases x with
        | tmp t =>
          refine getD_of (s2 t fun i hi => hx ⟨i, t, hi, rfl⟩)
        | _ => rfl
    have hfv : FactsV F V w (depsOf o) := by
      revert hfacts
      generalize depsOf o = js
      intro hfacts
      induction js with
      | nil => trivial
      | cons j js ih =>
        refine ⟨?_, ih hfacts.2⟩
        have := hfacts.1
        cases hd : dstOf l j with
        | none =>
          rw [hd] at this
          simp only [V, hd, this, dif_pos]
          exact Classical.choose_spec this
        | some t =>
          rw [hd] at this
          simp only [V, hd]
          exact this
    have hob := h0 V w hE hfv
    rw [hρ] at hob
    cases hgd : o.guard with
    | none => rw [hgd] at hob; exact hob
    | some g =>
      obtain ⟨j, want⟩ := g
      rw [hgd] at hob
      unfold wfGuards at hg
      rw [List.all_eq_true] at hg
      have hgo := hg o (List.mem_of_getElem? (hl 0 o rfl))
      rw [hgd] at hgo
      obtain ⟨t, ht⟩ := Option.isSome_iff_exists.1 hgo
      refine ⟨t, ht, ?_⟩
      rcases hob with ⟨b, hb, h2, h3⟩ | ⟨hb, h2⟩
      · exact .inl ⟨b, by simp only [V, ht] at hb; exact hb, h2, h3⟩
      · exact .inr ⟨by simp only [V, ht] at hb; exact hb, h2⟩

/-- A REGION THAT DRAWS ITS ORDER, its frame written out. -/
theorem wp_region_V {P : Program} {id : Nat} {w : World} {a0 : Act} {l : List Oper} {Q : Exit → Act → World → Prop}
    (E : World → World → Prop) (F : Nat → Value → World → Prop) (A : (Nat → Value) → Act) (hA : ∀ V, putAll l V 0 a0 = A V) (hm : P.follows .mixedOrders = true)
    (hn : (l.filterMap (·.dst)).Nodup) (hlt : ∀ t ∈ l.filterMap (·.dst), t < a0.tmps.size) (hwf : (wfDeps l && wfGuards l) = true)
    (htrans : ∀ a b c, E a b → E b c → E a c) (hrefl : ∀ a, E a a) (hF : ∀ i v w1 w2, E w.drew w1 → E w1 w2 → F i v w1 → F i v w2)
    (hob : ObAllV P (E w.drew) E A F 0 l)
    (hend : ∀ (V : Nat → Value) (w' : World), E w.drew w' → FactsV F V w' (List.range l.length) → Q .normal (A V) w') :
    (Code.region id l.toArray true).wp P Q a0 w := by
  rw [Bool.and_eq_true] at hwf
  refine wp_region_facts E F hm hn hlt hwf.1 htrans hrefl hF (ObAllV.to hn (fun i t h => hlt t ?_) hA hwf.2 l 0 (fun i o h => by rwa [Nat.zero_add]) hob) fun V w' h1 h2 => by
    rw [hA]
    refine hend V w' h1 ?_
    have : ∀ js : List Nat, (∀ j ∈ js, j < l.length) → FactsV F V w' js := by
      intro js
      induction js with
      | nil => intro _; trivial
      | cons j js ih => intro h; exact ⟨h2 j (h j (by simp)), ih fun i hi => h i (by simp [hi])⟩
    exact this _ fun j hj => List.mem_range.1 hj
  rw [List.mem_filterMap]
  simp only [dstOf, Option.bind_eq_some_iff] at h
  obtain ⟨o', ho', he⟩ := h
  exact ⟨o', List.mem_of_getElem? ho', he⟩

open Go.RowKit in
/-- .. where nothing that there was is changed. -/
theorem wp_region_B {P : Program} {id : Nat} {w : World} {a0 : Act} {l : List Oper} {Q : Exit → Act → World → Prop}
    (Fs : List (Value → World → Prop)) (A : (Nat → Value) → Act) (hA : ∀ V, putAll l V 0 a0 = A V) (hm : P.follows .mixedOrders = true)
    (hn : (l.filterMap (·.dst)).Nodup) (hlt : ∀ t ∈ l.filterMap (·.dst), t < a0.tmps.size) (hwf : (wfDeps l && wfGuards l) = true)
    (hF : ∀ F ∈ Fs, ∀ v w1 w2, Below w.heap.size w w1 → Below w1.heap.size w1 w2 → F v w1 → F v w2)
    (hob : ObAllV P (Below w.heap.size w) (fun a b => Below a.heap.size a b) A (fun i => Fs.getD i fun _ _ => True) 0 l)
    (hend : ∀ (V : Nat → Value) (w' : World), Below w.heap.size w w' → FactsV (fun i => Fs.getD i fun _ _ => True) V w' (List.range l.length) → Q .normal (A V) w') :
    (Code.region id l.toArray true).wp P Q a0 w := by
  have hd : Below w.heap.size w w.drew := (Below.refl _ _).drew
  refine wp_region_V (fun a b => Below a.heap.size a b) (fun i => Fs.getD i fun _ _ => True) A hA hm hn hlt hwf (fun a b c h k => h.trans (k.mono h.size)) (fun _ => Below.refl _ _) (fun i v w1 w2 h1 h2 h => ?_) (ObAllV.mono (fun w1 (h1 : Below w.drew.heap.size w.drew w1) => hd.trans h1) _ _ hob) fun V w' h1 h2 => hend V w' (hd.trans h1) h2
  rcases Nat.lt_or_ge i Fs.length with hi | hi
  · rw [List.getD_eq_getElem?_getD, List.getElem?_eq_getElem hi] at h ⊢
    exact hF _ (List.getElem_mem hi) v w1 w2 (hd.trans h1) h2 h
  · rw [List.getD_eq_getElem?_getD, List.getElem?_eq_none hi]; trivial

theorem stable_eq {w : World} {c : Value} {E E' : World → World → Prop} : ∀ v w1 w2, E w w1 → E' w1 w2 → (fun (v : Value) (_ : World) => v = c) v w1 → (fun (v : Value) (_ : World) => v = c) v w2 := fun _ _ _ _ _ h => h

open Go.RowKit in
/-- the call returns; nothing that there was is changed; what is returned keeps F -/
def Yields (w : World) (F : Value → World → Prop) : Ending → World → Prop := After (Both (fun a b => Below a.heap.size a b) F w)
/-- the call returns the value; nothing that there was is changed -/
def Gives (w : World) (v : Value) : Ending → World → Prop := Yields w fun u _ => u = v
open Go.RowKit in
theorem Gives.mk {w w' : World} {v : Value} {e : Ending} (he : e = .returned v) (hb : Below w.heap.size w w') : Gives w v e w' := ⟨v, he, hb, rfl⟩
end Go.Proofs.YtooocakkjdhfiaaGreatDoor
/- A term is copied into memory of its own. -/
namespace Go.Proofs.YtooocakkjdhfiaaGreatDoor
set_option maxRecDepth 100000
open Go.RowKit

def MadeT (t : Tm) (w : World) (e : Ending) (w' : World) : Prop := ∃ v F, e = .returned (.agg #[.string t.name, v]) ∧ D.own w' v (Tm.sd t.args) F ∧ (∀ x ∈ F, w.heap.size ≤ x) ∧ Below w.heap.size w w'
def MadeS (ts : List Tm) (w : World) (e : Ending) (w' : World) : Prop := ∃ v F, e = .returned v ∧ D.own w' v (Tm.sd ts) F ∧ (∀ x ∈ F, w.heap.size ≤ x) ∧ Below w.heap.size w w'

def ToTerm (t : Tm) : Prop := ∀ (S : Nat → Prop) (c0 c1 : Value) (w : World), Tm.at S w c0 c1 t → t.bulk ≤ 1048576 → Calls Tryz.prog 55 #[.agg #[c0, c1]] w (MadeT t w)
def ToTermS (ts : List Tm) : Prop := ∀ (S : Nat → Prop) (v : Value) (w : World), D.rd S w v (Tm.sd ts) → ts.length + Tm.bulks ts ≤ 1048576 → Calls Tryz.prog 76 #[v] w (MadeS ts w)

theorem infoTerm : (Tryz.prog.info? 50).map (fun i => (i.zero, i.size, i.bytes)) = some (some (.agg #[.string ByteArray.empty, .slice none 0 0]), 2, 40) := by kernel_rfl

set_option maxHeartbeats 400000 in
theorem toTerm_of (n : ByteArray) (ts : List Tm) (h : ToTermS ts) : ToTerm (.node n ts) := by
  intro S c0 c1 w hr hbk
  obtain ⟨rfl, hn, a, cap, rfl⟩ := Tm.at_form hr
  have hs := hr.2
  rw [Tm.bulk] at hbk
  simp only [Tm.name, Tm.args] at hn hs ⊢
  clear hr
  go_enter Tryz.func55, Tryz.ntmps55
  go_wp2_with fail
  refine (h S _ _ (D.rd_keep ((((Keeps.refl _ _).alloc _).alloc _).alloc _) _ _ hs) (by omega)).mono ?_
  rintro e w1 ⟨v, F, rfl, ho, hF, hb⟩
  obtain ⟨a', cap', rfl⟩ := Tm.sd_own_form ho
  obtain ⟨hc, hf⟩ := bcell hb
  have hz := hb.size
  simp only [World.size_alloc] at hc hf hz hF
  go_wp2_with fail
  refine bodyPost_ret (v := .agg #[.string n, .slice a' ts.length cap']) (by simp [results, Tryz.results55, go_sem, hc]) rfl ?_
  refine ⟨_, F, rfl, D.own_keep _ _ _ ?_ ho, fun x hx => by have := hF x hx; omega, ?_⟩
  · exact ((((Keeps.refl _ _).set_lt hF (by simp) _).set_lt hF (by simp) _).set_lt hF (by simp) _)
  · exact (((((((Below.refl _ _).alloc (Nat.le_refl _) _).alloc (by simp) _).alloc (by simp; omega) _).trans (hb.mono (by simp; omega))).setCell (by simp; omega) _).setCell (by simp) _).setCell (by simp) _
set_option maxHeartbeats 400000 in
theorem toTermS_of (ts : List Tm) (h : ∀ t ∈ ts, ToTerm t) : ToTermS ts := by
  intro S v w hr hbk
  obtain ⟨a, cap, rfl, hlen, hcap⟩ := Tm.sd_form hr
  have hmk := run_mk (P := Tryz.prog) Tryz.underlying48 infoTerm ts.length (by omega) hlen
  unfold big at hlen
  go_enter Tryz.func76, Tryz.ntmps76
  go_wp2_with fail
  go_loopw [4] (fun i wr => ∃ (k : Nat) (F : List Nat), k ≤ ts.length ∧ i = .int .i64 k ∧ Filled wr w.heap.size 50 (ts.length * 2) (Tm.css (ts.take k)) F ∧ (∀ x ∈ F, w.heap.size < x) ∧ Below w.heap.size w wr) (fun i _ => ts.length - (intOf i).toNat)
  case atStart =>
    refine ⟨0, [], Nat.zero_le _, rfl, ?_, by simp, (Below.refl _ _).alloc (Nat.le_refl _) _⟩
    have := Filled.made w (madeCells #[Value.string ByteArray.empty, Value.slice none 0 0] (ts.length * 2)) 50
    rw [size_madeCells] at this
    simpa [Tm.css] using this
  case round =>
    obtain ⟨k, F, hk, rfl, hfl, hF, hb⟩ := hrel
    by_cases hlt : k < ts.length
    · have hne : ts ≠ [] := by intro e; subst e; simp at hlt
      obtain ⟨b, off, rfl, hS, hbl, hrr⟩ := Tm.sd_get hr hne
      obtain ⟨c0, c1, q0, q1, q2⟩ := hrr k hlt
      have q0' := (hb.cell (p := ⟨b, off + k * 2, none⟩) hbl).trans q0
      have q1' := (hb.cell (p := ⟨b, off + k * 2 + 1, none⟩) hbl).trans q1
      have q2' := Tm.at_keep (Keeps.all hb) q2
      have hmem := h ts[k] (List.getElem_mem hlt)
      have hbk' := Tm.bulk_mem (List.getElem_mem hlt)
      clear q0 q1 q2 hr hrr
      go_wp2_with fail
      refine (hmem _ _ _ _ q2' (by omega)).mono ?_
      rintro e w1 ⟨v, G, rfl, ho, hG, hb1⟩
      obtain ⟨a', cap', rfl⟩ := Tm.sd_own_form ho
      have hfl1 := hfl.keep (Keeps.all hb1)
      obtain ⟨x0, hx0⟩ := hfl1.cell (p := k * 2) (by omega)
      obtain ⟨x1, hx1⟩ := hfl1.cell (p := k * 2 + 1) (by omega)
      have hf0 := hfl1.free (k * 2)
      have hf1 := hfl1.free (k * 2 + 1)
      go_wp2_with fail
      go_roundw
      case rel =>
        have hB := hb.size
        have hBl := hfl.lt
        have hG' : w.heap.size ∉ G := fun q => by have := hG _ q; omega
        refine ⟨k + 1, F ++ G, by omega, by go_num, ?_, fun x hx => ?_, ((hb.trans (hb1.mono hB)).setCell (Nat.le_refl _) _).setCell (Nat.le_refl _) _⟩
        · rw [Tm.css_take_succ ts k hlt]
          have hl : (Tm.css (ts.take k)).length = k * 2 := by rw [Tm.css_length, List.length_take, Nat.min_eq_left hk]
          have hsz : ts[k].name.size ≤ maxLen := (Tm.at_form q2').2.1
          have hd : ∀ x ∈ F, x ∉ G := fun x hx hx' => by have := hG x hx'; have := hfl.ltF x hx; omega
          have s1 := hfl1.set (v := .string ts[k].name) (G := []) hl.symm (by omega) (D.own_str hsz) (by simp) (by simp)
          have s2 := s1.set (p := k * 2 + 1) (v := .slice a' ts[k].args.length cap') (G := G) (d := Tm.sd ts[k].args) (by simp [hl]) (by omega) (D.own_keep _ _ _ ((Keeps.refl _ _).setCell (fun q _ => hG' q) _) ho) hG' (by simpa using hd)
          simpa using s2
        · rcases List.mem_append.1 hx with hx | hx
          · exact hF x hx
          · have := hG x hx; omega
      case measure => simp [intOf]; omega
    · obtain rfl : k = ts.length := by omega
      go_wp2_with fail
      go_ret
      rw [List.take_length] at hfl
      by_cases hne : ts = []
      · subst hne
        exact ⟨_, [], rfl, D.own_nil _ _, by simp, hb⟩
      · exact ⟨_, _ :: F, rfl, hfl.own (Tm.css_ne hne) (by unfold big; omega) (Nat.le_refl _), fun x hx => by rcases List.mem_cons.1 hx with rfl | hx; exact Nat.le_refl _; exact Nat.le_of_lt (hF x hx), hb⟩

theorem toTerm_any (t : Tm) : ToTerm t := Tm.ind (fun n ts h => toTerm_of n ts (toTermS_of ts h)) t
theorem toTermS_any (ts : List Tm) : ToTermS ts := toTermS_of ts fun t _ => toTerm_any t

/-- the value is a term that reads as t -/
def Is (t : Tm) (v : Value) (w : World) : Prop := ∃ v', v = .agg #[.string t.name, v'] ∧ Tm.at (fun _ => True) w (.string t.name) v' t
theorem Is.form {t : Tm} {v : Value} {w : World} (h : Is t v w) : ∃ a cap, v = .agg #[.string t.name, .slice a t.args.length cap] ∧ Tm.at (fun _ => True) w (.string t.name) (.slice a t.args.length cap) t := by
  obtain ⟨v', rfl, h⟩ := h
  obtain ⟨-, -, a, cap, rfl⟩ := Tm.at_form h
  exact ⟨a, cap, rfl, h⟩
theorem Is.stable {t : Tm} {w : World} : ∀ v w1 w2, Below w.heap.size w w1 → Below w1.heap.size w1 w2 → Is t v w1 → Is t v w2 :=
  fun _ _ _ _ hb ⟨v', e, h⟩ => ⟨v', e, Tm.at_keep (Keeps.all hb) h⟩
theorem toTerm_is {t : Tm} {S : Nat → Prop} {c0 c1 : Value} {w : World} (h : Tm.at S w c0 c1 t) (hb : t.bulk ≤ 1048576) :
    Calls Tryz.prog 55 #[.agg #[c0, c1]] w (Yields w (Is t)) :=
  (toTerm_any t S c0 c1 w h hb).mono fun _ _ ⟨v, _, he, ho, _, hbl⟩ => ⟨_, he, hbl, v, rfl, D.rd_str (Tm.at_form h).2.1, D.rd_mono (fun _ _ => trivial) _ _ (D.own_rd _ _ _ ho)⟩
end Go.Proofs.YtooocakkjdhfiaaGreatDoor
/- Terms are compared. -/
namespace Go.Proofs.YtooocakkjdhfiaaGreatDoor
set_option maxRecDepth 100000
open Go.RowKit

def EqTerm (t : Tm) : Prop := ∀ (u : Tm) (S : Nat → Prop) (c0 c1 d0 d1 : Value) (w : World), Tm.at S w c0 c1 t → Tm.at S w d0 d1 u → Calls Tryz.prog 60 #[.agg #[c0, c1], .agg #[d0, d1]] w fun e w' => e = .returned (.bool (Tm.eqb t u)) ∧ Below w.heap.size w w'
def EqTermS (ts : List Tm) : Prop := ∀ (us : List Tm) (S : Nat → Prop) (v u : Value) (w : World), D.rd S w v (Tm.sd ts) → D.rd S w u (Tm.sd us) → Calls Tryz.prog 83 #[v, u] w fun e w' => e = .returned (.bool (Tm.eqbs ts us)) ∧ Below w.heap.size w w'

set_option maxHeartbeats 400000 in
theorem eqTermS_of (ts : List Tm) (h : ∀ t ∈ ts, EqTerm t) : EqTermS ts := by
  intro us S v u w hr hr'
  obtain ⟨a, cap, rfl, hlen, hcap⟩ := Tm.sd_form hr
  obtain ⟨a', cap', rfl, hlen', hcap'⟩ := Tm.sd_form hr'
  unfold big at hlen hlen'
  by_cases hll : ts.length = us.length
  · go_enter Tryz.func83, Tryz.ntmps83
    go_wp2_with fail
    go_loopw [5] (fun i wr => ∃ (k : Nat), k ≤ ts.length ∧ i = .int .i64 k ∧ Hid (ts.take k = us.take k) ∧ Below w.heap.size w wr) (fun i _ => ts.length - (intOf i).toNat)
    case atStart => exact ⟨0, Nat.zero_le _, rfl, by simp [Hid], Below.refl _ _⟩
    case round =>
      obtain ⟨k, hk, rfl, HX, hb⟩ := hrel
      by_cases hlt : k < ts.length
      · have hne : ts ≠ [] := by intro e; subst e; simp at hlt
        have hlt' : k < us.length := by omega
        have hne' : us ≠ [] := by intro e; subst e; simp at hlt'
        
        obtain ⟨b, off, rfl, hS, hbl, hrr⟩ := Tm.sd_get hr hne
        obtain ⟨b', off', rfl, hS', hbl', hrr'⟩ := Tm.sd_get hr' hne'
        obtain ⟨c0, c1, q0, q1, q2⟩ := hrr k hlt
        obtain ⟨d0, d1, r0, r1, r2⟩ := hrr' k hlt'
        replace q0 := (hb.cell (p := ⟨b, off + k * 2, none⟩) hbl).trans q0
        replace q1 := (hb.cell (p := ⟨b, off + k * 2 + 1, none⟩) hbl).trans q1
        replace q2 := Tm.at_keep (Keeps.all hb) q2
        replace r0 := (hb.cell (p := ⟨b', off' + k * 2, none⟩) hbl').trans r0
        replace r1 := (hb.cell (p := ⟨b', off' + k * 2 + 1, none⟩) hbl').trans r1
        replace r2 := Tm.at_keep (Keeps.all hb) r2
        have hmem := h ts[k] (List.getElem_mem hlt)
        clear hr hrr hr' hrr'
        go_wp2_with fail
        have hb0 : b < wr.heap.size := Nat.lt_of_lt_of_le hbl hb.size
        have hb0' : b' < wr.heap.size := Nat.lt_of_lt_of_le hbl' hb.size
        refine wp_region_B [fun v _ => v = .slice (some ⟨b, off, none⟩) ts.length cap, fun v _ => v = .int .i64 k, fun v _ => v = .pointer (some ⟨b, off + k * 2, none⟩), fun v _ => v = .agg #[c0, c1], fun v _ => v = .slice (some ⟨b', off', none⟩) us.length cap', fun v _ => v = .int .i64 k, fun v _ => v = .pointer (some ⟨b', off' + k * 2, none⟩), fun v _ => v = .agg #[d0, d1], fun v _ => v = .bool (Tm.eqb ts[k] us[k]), fun v _ => v = .bool (!Tm.eqb ts[k] us[k])] _ (fun V => by simp [putAll, Act.put]; rfl) (by kernel_rfl) (by decide) (by simp) (by kernel_rfl) ?_ ?_ ?_
        · intro F hF
          simp only [List.mem_cons, List.not_mem_nil, or_false] at hF
          rcases hF with rfl | rfl | rfl | rfl | rfl | rfl | rfl | rfl | rfl | rfl
          · exact stable_eq
          · exact stable_eq
          · exact stable_eq
          · exact stable_eq
          · exact stable_eq
          · exact stable_eq
          · exact stable_eq
          · exact stable_eq
          · exact stable_eq
          · exact stable_eq
        · refine ⟨?_, ?_, ?_, ?_, ?_, ?_, ?_, ?_, ?_, ?_, trivial⟩
          · intro V w1 hbR _
            unfold Does
            go_simp
            exact ⟨Below.refl _ _, rfl⟩
          · intro V w1 hbR _
            unfold Does
            go_simp
            exact ⟨Below.refl _ _, rfl⟩
          · intro V w1 hbR ⟨f0, f1, _⟩
            replace f0 : V 0 = .slice (some ⟨b, off, none⟩) ts.length cap := f0
            replace f1 : V 1 = .int .i64 k := f1
            unfold Does
            go_simp
            exact ⟨Below.refl _ _, rfl⟩
          · intro V w1 hbR ⟨f2, _⟩
            replace f2 : V 2 = .pointer (some ⟨b, off + k * 2, none⟩) := f2
            obtain ⟨hc, hf⟩ := bcell hbR
            try simp only [World.size_alloc, World.size_setCell] at hc hf
            unfold Does
            go_simp
            exact ⟨Below.refl _ _, rfl⟩
          · intro V w1 hbR _
            unfold Does
            go_simp
            exact ⟨Below.refl _ _, rfl⟩
          · intro V w1 hbR _
            unfold Does
            go_simp
            exact ⟨Below.refl _ _, rfl⟩
          · intro V w1 hbR ⟨f4, f5, _⟩
            replace f4 : V 4 = .slice (some ⟨b', off', none⟩) us.length cap' := f4
            replace f5 : V 5 = .int .i64 k := f5
            unfold Does
            go_simp
            exact ⟨Below.refl _ _, rfl⟩
          · intro V w1 hbR ⟨f6, _⟩
            replace f6 : V 6 = .pointer (some ⟨b', off' + k * 2, none⟩) := f6
            obtain ⟨hc, hf⟩ := bcell hbR
            try simp only [World.size_alloc, World.size_setCell] at hc hf
            unfold Does
            go_simp
            exact ⟨Below.refl _ _, rfl⟩
          · intro V w1 hbR ⟨f3, f7, _⟩
            replace f3 : V 3 = .agg #[c0, c1] := f3
            replace f7 : V 7 = .agg #[d0, d1] := f7
            obtain ⟨hc, hf⟩ := bcell hbR
            try simp only [World.size_alloc, World.size_setCell] at hc hf
            unfold Does
            go_simp
            refine (hmem _ _ _ _ _ _ _ (Tm.at_keep (Keeps.all hbR) q2) (Tm.at_keep (Keeps.all hbR) r2)).mono ?_; rintro e w2 ⟨rfl, hb2⟩; exact ⟨_, rfl, hb2, rfl⟩
          · intro V w1 hbR ⟨f8, _⟩
            replace f8 : V 8 = .bool (Tm.eqb ts[k] us[k]) := f8
            unfold Does
            go_simp
            exact ⟨Below.refl _ _, rfl⟩
        intro V w1 hbR hfR
        obtain ⟨f0, f1, f2, f3, f4, f5, f6, f7, f8, f9, _⟩ := hfR
        replace f0 : V 0 = .slice (some ⟨b, off, none⟩) ts.length cap := f0
        replace f1 : V 1 = .int .i64 k := f1
        replace f2 : V 2 = .pointer (some ⟨b, off + k * 2, none⟩) := f2
        replace f3 : V 3 = .agg #[c0, c1] := f3
        replace f4 : V 4 = .slice (some ⟨b', off', none⟩) us.length cap' := f4
        replace f5 : V 5 = .int .i64 k := f5
        replace f6 : V 6 = .pointer (some ⟨b', off' + k * 2, none⟩) := f6
        replace f7 : V 7 = .agg #[d0, d1] := f7
        replace f8 : V 8 = .bool (Tm.eqb ts[k] us[k]) := f8
        replace f9 : V 9 = .bool (!Tm.eqb ts[k] us[k]) := f9
        simp only [f0, f1, f2, f3, f4, f5, f6, f7, f8, f9]
        clear f0 f1 f2 f3 f4 f5 f6 f7 f8 f9
        by_cases he : Tm.eqb ts[k] us[k] = true
        · have HZ := hid (Tm.eqbs_take hlt hlt' HX.out he)
          rw [he]
          go_wp2_with fail
          go_roundw
          case rel => exact ⟨k + 1, by omega, by go_num, HZ, hb.trans (hbR.mono hb.size)⟩
          case measure => simp [intOf]; omega
        · have he' : Tm.eqb ts[k] us[k] = false := by simpa using he
          have HZ := hid (Tm.eqbs_at hlt hlt' he')
          rw [he']
          clear he he'
          go_wp2_with fail
          go_ret
          exact ⟨ret_bool HZ.out.symm, hb.trans (hbR.mono hb.size)⟩
      · obtain rfl : k = ts.length := by omega
        have HY : Hid (Tm.eqbs ts us = true) := by
          have := HX.out
          rw [List.take_length, hll, List.take_length] at this
          rw [Hid, Tm.eqbs_iff]; exact this
        go_wp2_with fail
        go_ret
        exact ⟨ret_bool HY.out.symm, hb⟩
  · have HY := hid (Tm.eqbs_length hll)
    go_enter Tryz.func83, Tryz.ntmps83
    go_wp2_with fail
    go_ret
    exact ⟨ret_bool HY.out.symm, Below.refl _ _⟩

set_option maxHeartbeats 400000 in
theorem eqTerm_of (n : ByteArray) (ts : List Tm) (h : EqTermS ts) : EqTerm (.node n ts) := by
  intro u S c0 c1 d0 d1 w hr hr'
  obtain ⟨m, us⟩ := u
  obtain ⟨rfl, hn, -⟩ := Tm.at_form hr
  obtain ⟨rfl, hm, -⟩ := Tm.at_form hr'
  have hs := hr.2
  have hs' := hr'.2
  simp only [Tm.name, Tm.args] at hs hs' hn hm ⊢
  clear hr hr'
  by_cases hnm : n = m
  · subst hnm
    have HX : Hid (Tm.eqb (.node n ts) (.node n us) = Tm.eqbs ts us) := by simp [Hid, Tm.eqb]
    go_enter Tryz.func60, Tryz.ntmps60
    go_wp2_with fail
    refine (h us S _ _ _ (D.rd_keep (((Keeps.refl _ _).alloc _).alloc _) _ _ hs) (D.rd_keep (((Keeps.refl _ _).alloc _).alloc _) _ _ hs')).mono ?_
    rintro e w1 ⟨rfl, hb⟩
    have hb' : Below w.heap.size w w1 := (((Below.refl _ _).alloc (Nat.le_refl _) _).alloc (by simp) _).trans (hb.mono (by simp; omega))
    by_cases he : Tm.eqbs ts us = true
    all_goals
      first | rw [he] | rw [Bool.eq_false_iff.2 he]
      go_wp2_with fail
      go_ret
      exact ⟨ret_bool (by rw [HX.out]; simp [he]), hb'⟩
  · have HX : Hid (Tm.eqb (.node n ts) (.node m us) = false) := by simp [Hid, Tm.eqb, hnm]
    have hne := toList_ne hnm
    go_enter Tryz.func60, Tryz.ntmps60
    go_wp2_with fail
    go_ret
    exact ⟨ret_bool HX.out.symm, ((Below.refl _ _).alloc (Nat.le_refl _) _).alloc (by simp) _⟩

theorem eqTerm_any (t : Tm) : EqTerm t := Tm.ind (fun n ts h => eqTerm_of n ts (eqTermS_of ts h)) t
theorem eqTermS_any (ts : List Tm) : EqTermS ts := eqTermS_of ts fun t _ => eqTerm_any t

/-- a term against its copy -/
theorem eqTerm_refl {t : Tm} {S : Nat → Prop} {c0 c1 d0 d1 : Value} {w : World} (h : Tm.at S w c0 c1 t) (k : Tm.at S w d0 d1 t) : Calls Tryz.prog 60 #[.agg #[c0, c1], .agg #[d0, d1]] w (Gives w (.bool true)) :=
  (eqTerm_any t t S c0 c1 d0 d1 w h k).mono fun _ _ ⟨he, hb⟩ => Gives.mk (by rw [he, (Tm.eqb_iff t t).2 rfl]) hb
end Go.Proofs.YtooocakkjdhfiaaGreatDoor
/- A part of data that is owned is put anew. -/
namespace Go.Proofs.YtooocakkjdhfiaaGreatDoor
set_option maxRecDepth 100000
open Go.RowKit

theorem D.owns_upd {w : World} {b : Nat} : ∀ (cs : List D) (off : Nat) (F : List Nat), D.owns w b off cs F → ∀ j (hj : j < cs.length), ∃ Fj A B, F = A ++ Fj ++ B ∧
    (∃ v, w.cell? ⟨b, off + j, none⟩ = some v ∧ D.own w v cs[j] Fj) ∧ (∀ x ∈ Fj, x ∉ A ∧ x ∉ B) ∧
    ∀ (w' : World) (d' : D), (∃ v', w'.cell? ⟨b, off + j, none⟩ = some v' ∧ D.own w' v' d' Fj) → (∀ i, i < cs.length → i ≠ j → w'.cell? ⟨b, off + i, none⟩ = w.cell? ⟨b, off + i, none⟩) →
      Keeps (fun x => x ∈ A ∨ x ∈ B) w w' → D.owns w' b off (cs.set j d') F
  | [], _, _, _, j, hj => absurd hj (by simp)
  | c :: cs, off, F, h, 0, _ => by
    rw [D.owns] at h
    obtain ⟨F1, F2, rfl, hd, hv, hr⟩ := h
    refine ⟨F1, [], F2, by simp, by simpa using hv, fun x hx => ⟨by simp, hd x hx⟩, fun w' d' hv' hc hk => ?_⟩
    rw [List.set_cons_zero, D.owns]
    refine ⟨F1, F2, rfl, hd, by simpa using hv', D.owns_keep cs (off + 1) F2 (fun i hi => ?_) (hk.mono fun x hx => .inr hx) hr⟩
    have := hc (i + 1) (by simpa using hi) (by omega)
    rw [show off + (i + 1) = off + 1 + i by omega] at this
    exact this
  | c :: cs, off, F, h, j + 1, hj => by
    rw [D.owns] at h
    obtain ⟨F1, F2, rfl, hd, hv, hr⟩ := h
    obtain ⟨Fj, A, B, rfl, hvj, hdj, hup⟩ := D.owns_upd cs (off + 1) F2 hr j (by simpa using hj)
    refine ⟨Fj, F1 ++ A, B, by simp [List.append_assoc], ?_, fun x hx => ⟨?_, (hdj x hx).2⟩, fun w' d' hv' hc hk => ?_⟩
    · rw [show off + (j + 1) = off + 1 + j by omega]; simpa using hvj
    · simp only [List.mem_append, not_or]
      exact ⟨fun q => hd x q (by simp [hx]), (hdj x hx).1⟩
    · rw [List.set_cons_succ, D.owns]
      obtain ⟨v, q0, q1⟩ := hv
      refine ⟨F1, A ++ Fj ++ B, rfl, hd, ⟨v, ?_, D.own_keep _ _ _ (hk.mono fun x hx => .inl (by simp [show x ∈ F1 from hx])) q1⟩, hup w' d' ?_ (fun i hi hij => ?_) (hk.mono fun x hx => ?_)⟩
      · exact (hc 0 (by simp) (by omega)).trans q0
      · rw [show off + (j + 1) = off + 1 + j by omega] at hv'; exact hv'
      · have := hc (i + 1) (by simpa using hi) (by omega)
        rw [show off + (i + 1) = off + 1 + i by omega] at this
        exact this
      · rcases hx with q | q
        · exact .inl (by simp [q])
        · exact .inr q

theorem D.own_slice {w : World} {a : Option Addr} {n m cap : Nat} {cs : List D} {F : List Nat} (h : D.own w (.slice a m cap) (.sl n cs) F) (hne : cs ≠ []) : m = n ∧ ∃ b off F', a = some ⟨b, off, none⟩ ∧ F = b :: F' ∧ b ∉ F' ∧ b < w.heap.size ∧ (∀ p, w.frozen? ⟨b, p, none⟩ = false) ∧ D.owns w b off cs F' := by
  rw [D.own] at h
  obtain ⟨a', cap', e, h1, h2, h3, h4⟩ := h
  injection e with e0 e1 e2
  subst e0 e1 e2
  rcases h4 with ⟨h4, _⟩ | ⟨_, b, off, F', cur, e, q0, q1, rfl, q3, q4⟩
  · exact absurd h4 hne
  · exact ⟨rfl, b, off, F', q0, rfl, q3, lt_of_heap q1, fun p => by simp [World.frozen?, q1], q4⟩

/-- a leaf is stored -/
theorem D.own_store {w : World} {b off n cap : Nat} {cs : List D} {F : List Nat} (h : D.own w (.slice (some ⟨b, off, none⟩) n cap) (.sl n cs) F) {j : Nat} (hj : j < cs.length) {u : Value} {d' : D}
    (hl : ∀ v G, D.own w v cs[j] G → G = []) (hu : ∀ w', D.own w' u d' []) : D.own (w.setCell ⟨b, off + j, none⟩ u) (.slice (some ⟨b, off, none⟩) n cap) (.sl n (cs.set j d')) F := by
  rw [D.own] at h ⊢
  obtain ⟨a', cap', e, h1, h2, h3, h4⟩ := h
  injection e with e0 e1 e2
  subst e2
  have hne : cs ≠ [] := by intro e; subst e; simp at hj
  refine ⟨_, _, rfl, h1, h2, fun _ => by intro e; exact hne (by simpa using e), ?_⟩
  rcases h4 with ⟨h4, _⟩ | ⟨_, b', off', F', cur, e, q0, q1, rfl, q3, q4⟩
  · exact absurd h4 hne
  rw [← e0] at q0
  injection q0 with q0
  injection q0 with q5 q6
  subst q5 q6
  refine .inr ⟨by intro e; exact hne (by simpa using e), b, off, F', _, _, rfl, heap_setCell q1 u, rfl, q3, ?_⟩
  obtain ⟨Fj, A, B, rfl, ⟨v, r0, r1⟩, hdj, hup⟩ := D.owns_upd cs off F' q4 j hj
  have hF := hl v Fj r1
  subst hF
  refine hup _ d' ⟨u, ?_, hu _⟩ (fun i hi hij => ?_) ?_
  · exact World.cell?_setCell_same (u := v) _ _ _ r0
  · exact World.cell?_setCell_other _ _ _ _ (by intro e; injection e with _ e; omega)
  · refine (Keeps.refl _ _).setCell (fun q _ => q3 ?_) _
    have q : b ∈ A ∨ b ∈ B := q
    simpa using q

/-- a part of its own is put anew -/
theorem D.own_sub {w : World} {b off n cap : Nat} {cs : List D} {F : List Nat} (h : D.own w (.slice (some ⟨b, off, none⟩) n cap) (.sl n cs) F) {j : Nat} (hj : j < cs.length) :
    ∃ Fj v, w.cell? ⟨b, off + j, none⟩ = some v ∧ D.own w v cs[j] Fj ∧ (∀ x ∈ Fj, x ∈ F) ∧ b ∉ Fj ∧
      ∀ (w' : World) (d' : D), D.own w' v d' Fj → Keeps (· ∉ Fj) w w' → D.own w' (.slice (some ⟨b, off, none⟩) n cap) (.sl n (cs.set j d')) F := by
  rw [D.own] at h
  obtain ⟨a', cap', e, h1, h2, h3, h4⟩ := h
  injection e with e0 e1 e2
  subst e2
  have hne : cs ≠ [] := by intro e; subst e; simp at hj
  rcases h4 with ⟨h4, _⟩ | ⟨_, b', off', F', cur, e, q0, q1, rfl, q3, q4⟩
  · exact absurd h4 hne
  rw [← e0] at q0
  injection q0 with q0
  injection q0 with q5 q6
  subst q5 q6
  obtain ⟨Fj, A, B, rfl, ⟨v, r0, r1⟩, hdj, hup⟩ := D.owns_upd cs off F' q4 j hj
  have hbj : b ∉ Fj := fun q => q3 (by simp [q])
  refine ⟨Fj, v, r0, r1, fun x hx => by simp [hx], hbj, fun w' d' hv' hk => ?_⟩
  have hb := lt_of_heap q1
  rw [D.own]
  refine ⟨_, _, rfl, h1, h2, fun _ => by intro e; exact hne (by simpa using e), .inr ⟨by intro e; exact hne (by simpa using e), b, off, _, cur, _, rfl, (hk.block b hbj hb).trans q1, rfl, q3, hup w' d' ⟨v, (hk.cell hbj hb).trans r0, hv'⟩ (fun i _ _ => hk.cell hbj hb) (hk.mono fun x hx => ?_)⟩⟩
  intro hxj
  have := hdj x hxj
  rcases hx with q | q
  · exact this.1 q
  · exact this.2 q
end Go.Proofs.YtooocakkjdhfiaaGreatDoor
/- Letters, digits, and the names of variables and symbols: plain. -/
namespace Go.Proofs.YtooocakkjdhfiaaGreatDoor
set_option maxRecDepth 100000
open Go.RowKit

/-- byte i of a string; 0 behind its end -/
def byteAt (s : ByteArray) (i : Nat) : Nat := if h : i < s.size then s[i].toNat else 0
theorem byteAt_eq {s : ByteArray} {i : Nat} (h : i < s.size) : s[i].toNat = byteAt s i := by unfold byteAt; rw [dif_pos h]
theorem byteAt_lt (s : ByteArray) (i : Nat) : byteAt s i < 256 := by
  unfold byteAt
  split
  · exact UInt8.toNat_lt _
  · decide

def lowB (n : Nat) : Bool := decide (97 ≤ n) && decide (n ≤ 122)
def digB (n : Nat) : Bool := decide (48 ≤ n) && decide (n ≤ 57)
def upB (n : Nat) : Bool := decide (65 ≤ n) && decide (n ≤ 90)
theorem lowB_iff (n : Nat) : lowB n = true ↔ 97 ≤ n ∧ n ≤ 122 := by simp [lowB]
theorem digB_iff (n : Nat) : digB n = true ↔ 48 ≤ n ∧ n ≤ 57 := by simp [digB]
theorem upB_iff (n : Nat) : upB n = true ↔ 65 ≤ n ∧ n ≤ 90 := by simp [upB]

/-- may byte b stand at place i of a variable's name, of a symbol's name? -/
def varCh (i b : Nat) : Bool := if i = 0 then upB b else lowB b || digB b
def symCh (i b : Nat) : Bool := if i = 0 then lowB b else lowB b || digB b || b == 95
/-- the first k bytes pass -/
def allCh (p : Nat → Nat → Bool) (s : ByteArray) (k : Nat) : Bool := (List.range k).all fun i => p i (byteAt s i)
theorem allCh_zero (p : Nat → Nat → Bool) (s : ByteArray) : allCh p s 0 = true := by simp [allCh]
theorem allCh_succ (p : Nat → Nat → Bool) (s : ByteArray) (k : Nat) : allCh p s (k + 1) = (allCh p s k && p k (byteAt s k)) := by
  simp [allCh, List.range_succ]
theorem allCh_no {p : Nat → Nat → Bool} {s : ByteArray} {i k : Nat} (h : i < k) (hp : p i (byteAt s i) = false) : allCh p s k = false := by
  rw [Bool.eq_false_iff]
  intro e
  unfold allCh at e
  rw [List.all_eq_true] at e
  have := e i (List.mem_range.2 h)
  rw [hp] at this
  exact absurd this (by simp)

/-- does the list hold the string? -/
def hasStr (l : List ByteArray) (s : ByteArray) : Bool := l.any fun r => decide (s = r)
theorem hasStr_iff (l : List ByteArray) (s : ByteArray) : hasStr l s = true ↔ s ∈ l := by simp [hasStr]

def reservedL : List ByteArray := [⟨#[116, 114, 117, 101]⟩, ⟨#[102, 97, 108, 115, 101]⟩, ⟨#[116, 114, 117, 116, 104]⟩, ⟨#[98, 111, 116, 104]⟩, ⟨#[101, 105, 116, 104, 101, 114]⟩, ⟨#[105, 102]⟩, ⟨#[97, 108, 108]⟩, ⟨#[115, 111, 109, 101]⟩]
def varName (s : ByteArray) : Bool := allCh varCh s s.size && decide (1 ≤ s.size) && decide (s.size ≤ 4)
def symName (s : ByteArray) : Bool := allCh symCh s s.size && decide (1 ≤ s.size) && decide (s.size ≤ 6) && !hasStr reservedL s
end Go.Proofs.YtooocakkjdhfiaaGreatDoor
/- Terms, plain: size, depth, names. -/
namespace Go.Proofs.YtooocakkjdhfiaaGreatDoor
set_option maxRecDepth 100000
open Go.RowKit
mutual
def Tm.size : Tm → Nat
  | .node _ ts => 1 + Tm.sizes ts
def Tm.sizes : List Tm → Nat
  | [] => 0
  | t :: ts => Tm.size t + Tm.sizes ts
end
mutual
def Tm.depth : Tm → Nat
  | .node _ ts => Tm.depths ts + 1
def Tm.depths : List Tm → Nat
  | [] => 0
  | t :: ts => max (Tm.depth t) (Tm.depths ts)
end
mutual
/-- all nodes have valid names and as many arguments as they may have -/
def Tm.names : Tm → Bool
  | .node n ts => if varName n then ts.isEmpty else symName n && decide (ts.length ≤ 4) && Tm.namesAll ts
def Tm.namesAll : List Tm → Bool
  | [] => true
  | t :: ts => Tm.names t && Tm.namesAll ts
end

theorem Tm.sizes_take : ∀ (ts : List Tm) (k : Nat) (hk : k < ts.length), Tm.sizes (ts.take (k + 1)) = Tm.sizes (ts.take k) + ts[k].size
  | [], k, hk => absurd hk (by simp)
  | t :: ts, 0, _ => by simp [Tm.sizes]
  | t :: ts, k + 1, hk => by
    have := Tm.sizes_take ts k (by simpa using hk)
    simp only [List.take_succ_cons, Tm.sizes, this, List.getElem_cons_succ]; omega
theorem Tm.sizes_le : ∀ (ts : List Tm) (k : Nat), Tm.sizes (ts.take k) ≤ Tm.sizes ts
  | [], k => by simp
  | t :: ts, 0 => by simp [Tm.sizes]
  | t :: ts, k + 1 => by
    have := Tm.sizes_le ts k
    simp only [List.take_succ_cons, Tm.sizes]; omega
theorem Tm.depths_take : ∀ (ts : List Tm) (k : Nat) (hk : k < ts.length), Tm.depths (ts.take (k + 1)) = max (Tm.depths (ts.take k)) ts[k].depth
  | [], k, hk => absurd hk (by simp)
  | t :: ts, 0, _ => by simp [Tm.depths]
  | t :: ts, k + 1, hk => by
    have := Tm.depths_take ts k (by simpa using hk)
    simp only [List.take_succ_cons, Tm.depths, this, List.getElem_cons_succ]; omega
theorem Tm.namesAll_iff : ∀ ts : List Tm, Tm.namesAll ts = true ↔ ∀ t ∈ ts, Tm.names t = true
  | [] => by simp [Tm.namesAll]
  | t :: ts => by simp [Tm.namesAll, Tm.namesAll_iff ts]
theorem Tm.namesAll_no {ts : List Tm} {t : Tm} (h : t ∈ ts) (hn : Tm.names t = false) : Tm.namesAll ts = false := by
  rw [Bool.eq_false_iff]; intro e
  rw [(Tm.namesAll_iff ts).1 e t h] at hn
  exact absurd hn (by simp)
theorem Tm.namesAll_take : ∀ (ts : List Tm) (k : Nat) (hk : k < ts.length), Tm.namesAll (ts.take (k + 1)) = (Tm.namesAll (ts.take k) && Tm.names ts[k])
  | [], k, hk => absurd hk (by simp)
  | t :: ts, 0, _ => by simp [Tm.namesAll]
  | t :: ts, k + 1, hk => by
    have := Tm.namesAll_take ts k (by simpa using hk)
    simp only [List.take_succ_cons, Tm.namesAll, this, List.getElem_cons_succ, Bool.and_assoc]

/-- the size and the depth are no more than the bulk and one -/
theorem Tm.size_bulk (t : Tm) : t.size ≤ t.bulk + 1 := by
  refine Tm.ind (P := fun t => t.size ≤ t.bulk + 1) (fun n ts ih => ?_) t
  rw [Tm.size, Tm.bulk]
  have key : ∀ ts : List Tm, (∀ a ∈ ts, a.size ≤ a.bulk + 1) → Tm.sizes ts ≤ Tm.bulks ts + ts.length := by
    intro ts
    induction ts with
    | nil => intro _; simp [Tm.sizes]
    | cons t ts iht =>
      intro h
      have h0 := h t (by simp)
      have h1 := iht fun a ha => h a (by simp [ha])
      simp only [Tm.sizes, Tm.bulks, List.length_cons]; omega
  have := key ts ih
  omega
theorem Tm.depth_size (t : Tm) : t.depth ≤ t.size := by
  refine Tm.ind (P := fun t => t.depth ≤ t.size) (fun n ts ih => ?_) t
  rw [Tm.size, Tm.depth]
  have key : ∀ ts : List Tm, (∀ a ∈ ts, a.depth ≤ a.size) → Tm.depths ts ≤ Tm.sizes ts := by
    intro ts
    induction ts with
    | nil => intro _; simp [Tm.depths]
    | cons t ts iht =>
      intro h
      have h0 := h t (by simp)
      have h1 := iht fun a ha => h a (by simp [ha])
      simp only [Tm.depths, Tm.sizes]; omega
  have := key ts ih
  omega
theorem Tm.size_pos (t : Tm) : 0 < t.size := by cases t; rw [Tm.size]; omega

/-- r stands for s up to m: it is s, or both are greater -/
def Upto (m s r : Nat) : Prop := (s ≤ m → r = s) ∧ (m < s → m < r) ∧ r ≤ s
theorem Upto.add {m a b x y : Nat} (h : Upto m a x) (k : Upto m b y) : Upto m (a + b) (x + y) := by
  unfold Upto at *; omega
theorem Upto.le {m s r : Nat} (h : Upto m s r) : decide (r ≤ m) = decide (s ≤ m) := by
  unfold Upto at h
  rw [decide_eq_decide]; omega

/-- small: at most 30 nodes, at most 8 deep -/
def Tm.small (t : Tm) : Bool := decide (t.size ≤ 30) && decide (t.depth ≤ 8)
def Tm.valid (t : Tm) : Bool := t.small && t.names
def eqSign : ByteArray := ⟨#[61]⟩
/-- a valid atom -/
def Tm.atom : Tm → Bool
  | .node n ts => if n = eqSign then decide (ts.length = 2) && Tm.small (.node n ts) && Tm.namesAll ts else symName n && Tm.valid (.node n ts)
/-- a valid term or atom -/
def Tm.expr (t : Tm) : Bool := t.valid || t.atom
end Go.Proofs.YtooocakkjdhfiaaGreatDoor
