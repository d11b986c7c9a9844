/- A region whose order is drawn: each operation keeps a fact, in whatever order; behind the region all facts hold. -/
import Derived.WalkKit
import Derived.Orders
import Derived.KernelRfl
import Derived.Below
namespace Go.Proofs.YtooocakkjdhfiaaDoor
set_option maxRecDepth 100000

/-- the ending is a return, and R holds of what is returned -/
def After (R : Value → World → Prop) (e : Ending) (w : World) : Prop := ∃ v, e = .returned v ∧ R v w
/-- the world goes on by E, and the value keeps F -/
def Both (E : World → World → Prop) (F : Value → World → Prop) (w : World) (v : Value) (w' : World) : Prop := E w w' ∧ F v w'

/-- What one operation does, its operands' values given by ρ. -/
def Does (P : Program) (o : Oper) (ρ : Operand → Value) (w : World) (R : Value → World → Prop) : Prop :=
  match (execOp ρ o).run P w with
  | .ok (.value v) w' => R v w'
  | .ok .skip w' => R undef w'
  | .ok (.enter f args) w' => Calls P f args w' (After R)
  | _ => False

def depsOf (o : Oper) : List Nat := o.after.toList.filterMap fun e => if Region.binds .any e then some e.on else none

/-- the slot that operation j writes -/
def dstOf (l : List Oper) (j : Nat) : Option Tmp := (l[j]?).bind (·.dst)

/-- the facts of the operations js -/
def Facts (l : List Oper) (F : Nat → Value → World → Prop) (ρ : Operand → Value) (w : World) : List Nat → Prop
  | [] => True
  | j :: js => (match dstOf l j with | some t => F j (ρ (.tmp t)) w | none => ∃ v, F j v w) ∧ Facts l F ρ w js

theorem Facts.of {l : List Oper} {F : Nat → Value → World → Prop} {ρ : Operand → Value} {w : World} : ∀ (js : List Nat), (∀ j ∈ js, match dstOf l j with | some t => F j (ρ (.tmp t)) w | none => ∃ v, F j v w) → Facts l F ρ w js
  | [], _ => trivial
  | j :: js, h => ⟨h j (by simp), Facts.of js fun i hi => h i (by simp [hi])⟩

/-- what operation i must keep -/
def Ob (P : Program) (E : World → World → Prop) (w0 : World) (a0 : Act) (l : List Oper) (F : Nat → Value → World → Prop) (i : Nat) (o : Oper) : Prop :=
  ∀ (ρ : Operand → Value) (w : World), E w0 w → (∀ x, (∀ t ∈ l.filterMap (·.dst), x ≠ .tmp t) → ρ x = a0.eval x) → Facts l F ρ w (depsOf o) →
    match o.guard with
    | none => Does P o ρ w (Both E (F i) w)
    | some (j, want) => ∃ t, dstOf l j = some t ∧ ((∃ b, ρ (.tmp t) = .bool b ∧ (b = want → Does P o ρ w (Both E (F i) w)) ∧ (b ≠ want → F i undef w)) ∨ (ρ (.tmp t) = undef ∧ F i undef w))

def ObAll (P : Program) (E : World → World → Prop) (w0 : World) (a0 : Act) (l : List Oper) (F : Nat → Value → World → Prop) : Nat → List Oper → Prop
  | _, [] => True
  | i, o :: os => Ob P E w0 a0 l F i o ∧ ObAll P E w0 a0 l F (i + 1) os

theorem ObAll.get {P : Program} {E : World → World → Prop} {w0 : World} {a0 : Act} {l : List Oper} {F : Nat → Value → World → Prop} : ∀ (os : List Oper) (k : Nat), ObAll P E w0 a0 l F k os → ∀ i o, os[i]? = some o → Ob P E w0 a0 l F (k + i) o
  | [], _, _, i, o, h => by simp at h
  | o' :: os, k, ⟨h0, h1⟩, 0, o, h => by simp at h; subst h; exact h0
  | o' :: os, k, ⟨h0, h1⟩, i + 1, o, h => by
    have := ObAll.get os (k + 1) h1 i o (by simpa using h)
    rwa [show k + 1 + i = k + (i + 1) by omega] at this

theorem Does.wp {P : Program} {o : Oper} {a : Act} {w : World} {R : Value → World → Prop} {K : Act → World → Prop} {Q : Exit → Act → World → Prop} (h : Does P o a.eval w R) (hK : ∀ v w', R v w' → K (a.put o.dst v) w') : o.wp P a w K Q := by
  unfold Does at h
  unfold Oper.wp
  generalize (execOp a.eval o).run P w = r at *
  cases r with
  | ok n w' =>
    cases n <;> simp only [Oper.upon] at h ⊢ <;>
      first
        | exact hK _ _ h
        | (refine Calls.mono h ?_; rintro e w'' ⟨v, rfl, hr⟩; exact hK _ _ hr)
        | exact h.elim
  | halt x w' => exact h.elim

def wfDeps (l : List Oper) : Bool := (List.range l.length).all fun i => ((l[i]?).map fun o => (depsOf o).all (· < i)).getD true

def putAll (l : List Oper) (V : Nat → Value) (i : Nat) (a : Act) : Act :=
  match l with
  | [] => a
  | o :: os => putAll os V (i + 1) (a.put o.dst (V i))

theorem Act.getD_put (a : Act) (d : Option Tmp) (v : Value) (t : Nat) : (a.put d v).tmps[t]? = if d = some t ∧ t < a.tmps.size then some v else a.tmps[t]? := by
  cases d with
  | none => simp [Act.put]
  | some d =>
    simp only [Act.put, Option.some.injEq]
    rw [Array.getElem?_setIfInBounds]
    by_cases h : d = t
    · subst h
      by_cases hl : d < a.tmps.size
      · simp [hl]
      · simp [hl]
    · simp [h]
theorem Act.size_put (a : Act) (d : Option Tmp) (v : Value) : (a.put d v).tmps.size = a.tmps.size := by
  cases d <;> simp [Act.put]
theorem Act.defers_put (a : Act) (d : Option Tmp) (v : Value) : (a.put d v).defers = a.defers := by
  cases d <;> simp [Act.put]

theorem putAll_spec : ∀ (l : List Oper) (V : Nat → Value) (k : Nat) (a : Act), (l.filterMap (·.dst)).Nodup →
    (putAll l V k a).tmps.size = a.tmps.size ∧ (putAll l V k a).defers = a.defers ∧
    (∀ t, (∀ i, dstOf l i ≠ some t) → (putAll l V k a).tmps[t]? = a.tmps[t]?) ∧
    (∀ i t, dstOf l i = some t → t < a.tmps.size → (putAll l V k a).tmps[t]? = some (V (k + i)))
  | [], V, k, a, _ => ⟨rfl, rfl, fun _ _ => rfl, fun i t h => by simp [dstOf] at h⟩
  | o :: os, V, k, a, hn => by
    have hn' : (os.filterMap (·.dst)).Nodup := by
      cases hd : o.dst with
      | none => simpa [List.filterMap_cons, hd] using hn
      | some t => simp only [List.filterMap_cons, hd] at hn; exact (List.nodup_cons.1 hn).2
    obtain ⟨h0, h1, h2, h3⟩ := putAll_spec os V (k + 1) (a.put o.dst (V k)) hn'
    refine ⟨by rw [putAll, h0, Act.size_put], by rw [putAll, h1, Act.defers_put], fun t ht => ?_, fun i t hi hlt => ?_⟩
    · rw [putAll, h2 t (fun i => by have := ht (i + 1); simpa [dstOf] using this), Act.getD_put, if_neg]
      rintro ⟨e, _⟩
      exact ht 0 (by simp [dstOf, e])
    · rw [putAll]
      cases i with
      | zero =>
        have hd : o.dst = some t := by simpa [dstOf] using hi
        rw [h2 t, Act.getD_put, if_pos ⟨hd, hlt⟩]
        · rfl
        · intro i e
          simp only [List.filterMap_cons, hd] at hn
          refine (List.nodup_cons.1 hn).1 ?_
          rw [List.mem_filterMap]
          simp only [dstOf, Option.bind_eq_some_iff] at e
          obtain ⟨o', ho', he⟩ := e
          exact ⟨o', List.mem_of_getElem? ho', he⟩
      | succ i =>
        have := h3 i t (by simpa [dstOf] using hi) (by rw [Act.size_put]; exact hlt)
        rw [this]; congr 2; omega

structure Inv (E : World → World → Prop) (w0 : World) (a0 : Act) (l : List Oper) (F : Nat → Value → World → Prop) (listed : Array Bool) (a : Act) (w : World) : Prop where
  sz : listed.size = l.length
  ext : E w0 w
  defers : a.defers = a0.defers
  size : a.tmps.size = a0.tmps.size
  frame : ∀ t, (∀ i, dstOf l i = some t → listed[i]? ≠ some true) → a.tmps[t]? = a0.tmps[t]?
  fact : ∀ i, listed[i]? = some true → match dstOf l i with | some t => F i (a.tmps.getD t undef) w | none => ∃ v, F i v w

theorem nodup_dst {l : List Oper} (hn : (l.filterMap (·.dst)).Nodup) : ∀ i j t, dstOf l i = some t → dstOf l j = some t → i = j := by
  induction l with
  | nil => intro i j t h; simp [dstOf] at h
  | cons o os ih =>
    have hn' : (os.filterMap (·.dst)).Nodup := by
      cases hd : o.dst with
      | none => simpa [List.filterMap_cons, hd] using hn
      | some t => simp only [List.filterMap_cons, hd] at hn; exact (List.nodup_cons.1 hn).2
    have key : ∀ j t, o.dst = some t → dstOf os j = some t → False := by
      intro j t hd e
      simp only [List.filterMap_cons, hd] at hn
      refine (List.nodup_cons.1 hn).1 ?_
      rw [List.mem_filterMap]
      simp only [dstOf, Option.bind_eq_some_iff] at e
      obtain ⟨o', ho', he⟩ := e
      exact ⟨o', List.mem_of_getElem? ho', he⟩
    intro i j t hi hj
    cases i with
    | zero =>
      cases j with
      | zero => rfl
      | succ j => exact (key j t (by simpa [dstOf] using hi) (by simpa [dstOf] using hj)).elim
    | succ i =>
      cases j with
      | zero => exact (key i t (by simpa [dstOf] using hj) (by simpa [dstOf] using hi)).elim
      | succ j => exact congrArg (· + 1) (ih hn' i j t (by simpa [dstOf] using hi) (by simpa [dstOf] using hj))

theorem getD_of {a b : Act} {t : Nat} (h : a.tmps[t]? = b.tmps[t]?) : a.tmps.getD t undef = b.tmps.getD t undef := by
  simp only [Array.getD_eq_getD_getElem?, h]

theorem yielded_of {ops : Array Oper} {a : Act} {j t : Nat} {b : Bool} (hd : (ops[j]?).bind (·.dst) = some t) (hv : a.tmps.getD t undef = .bool b) : yielded ops a.tmps j = some b := by
  unfold yielded
  rw [hd]
  simp only [Option.bind_some]
  rw [Array.getD_eq_getD_getElem?] at hv
  cases hx : a.tmps[t]? with
  | none => rw [hx] at hv; simp [undef] at hv
  | some v => rw [hx] at hv; simp at hv; subst hv; rfl

theorem yielded_undef {ops : Array Oper} {a : Act} {j t : Nat} (hd : (ops[j]?).bind (·.dst) = some t) (hv : a.tmps.getD t undef = undef) : yielded ops a.tmps j = none := by
  unfold yielded
  rw [hd]
  simp only [Option.bind_some]
  rw [Array.getD_eq_getD_getElem?] at hv
  cases hx : a.tmps[t]? with
  | none => rfl
  | some v => rw [hx] at hv; simp at hv; subst hv; rfl

theorem wpAny_facts {P : Program} {E : World → World → Prop} {w0 : World} {a0 : Act} {l : List Oper} {F : Nat → Value → World → Prop} {Q : Exit → Act → World → Prop}
    (htrans : ∀ a b c, E a b → E b c → E a c) (hrefl : ∀ a, E a a) (hF : ∀ i v w w', E w0 w → E w w' → F i v w → F i v w')
    (hn : (l.filterMap (·.dst)).Nodup) (hlt : ∀ i t, dstOf l i = some t → t < a0.tmps.size) (hwf : wfDeps l = true) (hob : ObAll P E w0 a0 l F 0 l)
    (hend : ∀ a w, Inv E w0 a0 l F (Array.replicate l.length true) a w → Q .normal a w) :
    ∀ (fuel : Nat) (listed : Array Bool) (a : Act) (w : World), (listed.toList.filter (· == false)).length ≤ fuel → Inv E w0 a0 l F listed a w → wpAny P .any l.toArray Q fuel listed a w := by
  have hall : ∀ (listed : Array Bool), listed.size = l.length → Region.ready .any l.toArray listed = [] → listed = Array.replicate l.length true := by
    intro listed hsz hr
    have key : ∀ i, i < l.length → listed[i]? = some true := by
      intro i
      induction i using Nat.strongRecOn with
      | _ i ih =>
        intro hi
        have hnot : i ∉ Region.ready .any l.toArray listed := by rw [hr]; simp
        unfold Region.ready at hnot
        simp only [List.mem_filter, List.mem_range, List.size_toArray, hi, true_and, Bool.and_eq_true, Bool.not_eq_true', not_and] at hnot
        have hw := hwf
        unfold wfDeps at hw
        rw [List.all_eq_true] at hw
        have hwi := hw i (List.mem_range.2 hi)
        have ho : l[i]? = some l[i] := List.getElem?_eq_getElem hi
        rw [ho] at hwi
        simp only [Option.map_some, Option.getD_some, List.all_eq_true, decide_eq_true_eq] at hwi
        have hil : i < listed.size := by omega
        have hgi : listed[i]? = some listed[i] := Array.getElem?_eq_getElem hil
        cases hb : listed[i] with
        | true => rw [hgi, hb]
        | false =>
          exfalso
          refine hnot (by simp [Array.getD, hil, hb]) ?_
          have : (l.toArray)[i]? = some l[i] := by simp
          rw [this]
          simp only [Option.map_some, Option.getD_some]
          rw [Array.all_eq_true']
          intro e he
          by_cases hbd : Region.binds .any e = true
          · have hd : e.on ∈ depsOf l[i] := by
              unfold depsOf
              rw [List.mem_filterMap]
              exact ⟨e, by simpa using he, by simp [hbd]⟩
            have hlt' := hwi e.on hd
            have := ih e.on hlt' (by omega)
            rw [Array.getD_eq_getD_getElem?, this]
            simp
          · simp [hbd]
    apply Array.ext_getElem?
    intro i
    by_cases hi : i < l.length
    · rw [key i hi]; simp [hi]
    · simp [Array.getElem?_eq_none (show listed.size ≤ i by omega), hi]
  intro fuel
  induction fuel with
  | zero =>
    intro listed a w hf hinv
    have hr : Region.ready .any l.toArray listed = [] := by
      unfold Region.ready
      rw [List.filter_eq_nil_iff]
      intro i hi
      simp only [List.mem_range, List.size_toArray] at hi
      have hil : i < listed.size := by rw [hinv.sz]; exact hi
      have : listed[i] = true := by
        have h0 : listed.toList.filter (· == false) = [] := List.length_eq_zero_iff.1 (Nat.le_zero.1 hf)
        rw [List.filter_eq_nil_iff] at h0
        have := h0 listed[i] (by simp)
        simpa using this
      simp [Array.getD, hil, this]
    exact ⟨hr, hend a w (hall listed hinv.sz hr ▸ hinv)⟩
  | succ fuel ih =>
    intro listed a w hf hinv
    refine ⟨fun hr => hend a w (hall listed hinv.sz hr ▸ hinv), fun i hi => ?_⟩
    unfold Region.ready at hi
    simp only [List.mem_filter, List.mem_range, List.size_toArray, Bool.and_eq_true, Bool.not_eq_true'] at hi
    obtain ⟨hil, hun, hdeps⟩ := hi
    have ho : l[i]? = some l[i] := List.getElem?_eq_getElem hil
    have hoA : (l.toArray)[i]? = some l[i] := by simp
    rw [hoA] at hdeps
    simp only [Option.map_some, Option.getD_some, Array.all_eq_true'] at hdeps
    have hisz : i < listed.size := by rw [hinv.sz]; exact hil
    have hob' := ObAll.get l 0 hob i l[i] ho
    rw [Nat.zero_add] at hob'
    have hdep : ∀ j ∈ depsOf l[i], listed[j]? = some true := by
      intro j hj
      unfold depsOf at hj
      rw [List.mem_filterMap] at hj
      obtain ⟨e, he, hx⟩ := hj
      split at hx
      · rename_i hb
        injection hx with hx; subst hx
        have := hdeps e (by simpa using he)
        simp only [hb, Bool.not_true, Bool.false_or] at this
        rw [Array.getD_eq_getD_getElem?] at this
        cases hg : listed[e.on]? with
        | none => rw [hg] at this; simp at this
        | some b => rw [hg] at this; simp at this; rw [this]
      · cases hx
    have hfr : ∀ x, (∀ t ∈ l.filterMap (·.dst), x ≠ .tmp t) → a.eval x = a0.eval x := by
      intro x hx
      cases x with
      | tmp t =>
        refine getD_of (hinv.frame t fun j hj => ?_)
        refine absurd rfl (hx t ?_)
        rw [List.mem_filterMap]
        simp only [dstOf, Option.bind_eq_some_iff] at hj
        obtain ⟨o', ho', he⟩ := hj
        exact ⟨o', List.mem_of_getElem? ho', he⟩
      | _ => rfl
    have hfacts : Facts l F a.eval w (depsOf l[i]) := Facts.of _ fun j hj => hinv.fact j (hdep j hj)
    have hob'' := hob' a.eval w hinv.ext hfr hfacts
    have hunl : listed[i]? = some false := by
      rw [Array.getElem?_eq_getElem hisz]
      simp only [Array.getD, hisz, dif_pos] at hun
      simpa using hun
    -- the next state
    have hnext : ∀ v w', E w w' → F i v w' → wpAny P .any l.toArray Q fuel (listed.setIfInBounds i true) (a.put l[i].dst v) w' := by
      intro v w' he hv
      have hcount : (((listed.setIfInBounds i true).toList).filter (· == false)).length ≤ fuel := by
        rw [Array.toList_setIfInBounds]
        have hl' : listed.toList[i]? = some false := by simpa using hunl
        have : ∀ (L : List Bool) (i : Nat), L[i]? = some false → ((L.set i true).filter (· == false)).length + 1 = (L.filter (· == false)).length := by
          intro L
          induction L with
          | nil => intro i h; simp at h
          | cons b L ihL =>
            intro i h
            cases i with
            | zero => simp at h; subst h; simp
            | succ i =>
              have := ihL i (by simpa using h)
              cases b <;> simp at this ⊢ <;> omega
        have := this _ _ hl'
        omega
      refine ih _ _ _ hcount ⟨by simpa using hinv.sz, htrans _ _ _ hinv.ext he, by rw [Act.defers_put]; exact hinv.defers, by rw [Act.size_put]; exact hinv.size, fun t ht => ?_, fun j hj => ?_⟩
      · rw [Act.getD_put, if_neg]
        · refine hinv.frame t fun j hj hlj => ht j hj ?_
          rw [Array.getElem?_setIfInBounds]
          split
          · rename_i e; simp [hlj] at *
          · exact hlj
        · rintro ⟨e, _⟩
          refine ht i (by simp [dstOf, ho, e]) ?_
          rw [Array.getElem?_setIfInBounds]
          simp [hisz]
      · by_cases hij : i = j
        · subst hij
          have hd : dstOf l i = l[i].dst := by simp [dstOf, ho]
          rw [hd]
          cases hdst : l[i].dst with
          | none => exact ⟨v, hv⟩
          | some t =>
            have htl : t < a.tmps.size := by rw [hinv.size]; exact hlt i t (by rw [hd, hdst])
            show F i ((a.put (some t) v).tmps.getD t undef) w'
            rw [Array.getD_eq_getD_getElem?, Act.getD_put, if_pos ⟨rfl, htl⟩]
            exact hv
        · rw [Array.getElem?_setIfInBounds, if_neg hij] at hj
          have hold := hinv.fact j hj
          cases hdst : dstOf l j with
          | none =>
            rw [hdst] at hold
            obtain ⟨u, hu⟩ := hold
            exact ⟨u, hF j u w w' hinv.ext he hu⟩
          | some t =>
            rw [hdst] at hold
            show F j ((a.put l[i].dst v).tmps.getD t undef) w'
            have hne : ¬ (l[i].dst = some t ∧ t < a.tmps.size) := by
              rintro ⟨e, _⟩
              exact hij (nodup_dst hn i j t (by simp [dstOf, ho, e]) hdst)
            rw [Array.getD_eq_getD_getElem?, Act.getD_put, if_neg hne, ← Array.getD_eq_getD_getElem?]
            exact hF j _ w w' hinv.ext he hold
    unfold wpOp
    rw [hoA]
    show if Region.wanted l[i] (yielded l.toArray a.tmps) = true then _ else _
    cases hg : l[i].guard with
    | none =>
      rw [hg] at hob''
      have hwt : Region.wanted l[i] (yielded l.toArray a.tmps) = true := by simp [Region.wanted, hg]
      rw [if_pos hwt]
      exact .inl (Does.wp hob'' fun v w' ⟨h1, h2⟩ => hnext v w' h1 h2)
    | some g =>
      obtain ⟨j, want⟩ := g
      rw [hg] at hob''
      obtain ⟨t, hd, ⟨b, hv, hyes, hno⟩ | ⟨hv, hno⟩⟩ := hob''
      rotate_left
      · have hy : yielded l.toArray a.tmps j = none := yielded_undef (t := t) (by simpa [dstOf] using hd) hv
        have hwt : ¬ Region.wanted l[i] (yielded l.toArray a.tmps) = true := by simp [Region.wanted, hg, hy]
        rw [if_neg hwt]
        exact hnext undef w (hrefl w) hno
      have hy : yielded l.toArray a.tmps j = some b := yielded_of (t := t) (by simpa [dstOf] using hd) hv
      by_cases hbw : b = want
      · have hwt : Region.wanted l[i] (yielded l.toArray a.tmps) = true := by simp [Region.wanted, hg, hy, hbw]
        rw [if_pos hwt]
        exact .inl (Does.wp (hyes hbw) fun v w' ⟨h1, h2⟩ => hnext v w' h1 h2)
      · have hwt : ¬ Region.wanted l[i] (yielded l.toArray a.tmps) = true := by simp [Region.wanted, hg, hy, hbw]
        rw [if_neg hwt]
        exact hnext undef w (hrefl w) (hno hbw)

/-- A REGION THAT DRAWS ITS ORDER: each operation keeps its fact, whatever has been done besides; behind the region all facts hold. -/
theorem wp_region_facts {P : Program} {id : Nat} {w : World} {a0 : Act} {l : List Oper} {Q : Exit → Act → World → Prop}
    (E : World → World → Prop) (F : Nat → Value → World → Prop) (hm : P.follows .mixedOrders = true)
    (hn : (l.filterMap (·.dst)).Nodup) (hlt : ∀ t ∈ l.filterMap (·.dst), t < a0.tmps.size) (hwf : wfDeps l = true)
    (htrans : ∀ a b c, E a b → E b c → E a c) (hrefl : ∀ a, E a a) (hF : ∀ i v w1 w2, E w.drew w1 → E w1 w2 → F i v w1 → F i v w2)
    (hob : ObAll P E w.drew a0 l F 0 l)
    (hend : ∀ (V : Nat → Value) (w' : World), E w.drew w' → (∀ i, i < l.length → F i (V i) w') → Q .normal (putAll l V 0 a0) w') :
    (Code.region id l.toArray true).wp P Q a0 w := by
  refine wp_region_any hm ?_
  have hlt' : ∀ i t, dstOf l i = some t → t < a0.tmps.size := fun i t h => hlt t (by
    rw [List.mem_filterMap]
    simp only [dstOf, Option.bind_eq_some_iff] at h
    obtain ⟨o', ho', he⟩ := h
    exact ⟨o', List.mem_of_getElem? ho', he⟩)
  have hsz : (l.toArray).size = l.length := by simp
  rw [hsz]
  refine wpAny_facts htrans hrefl hF hn hlt' hwf hob (fun a w' hinv => ?_) l.length (Array.replicate l.length false) a0 w.drew ?_ ⟨by simp, hrefl _, rfl, rfl, fun _ _ => rfl, fun i hi => ?_⟩
  · classical
    have hfact : ∀ i, i < l.length → ∃ v, F i v w' ∧ ∀ t, dstOf l i = some t → a.tmps.getD t undef = v := by
      intro i hi
      have := hinv.fact i (by simp [hi])
      cases hd : dstOf l i with
      | none => rw [hd] at this; obtain ⟨v, hv⟩ := this; exact ⟨v, hv, fun t h => by cases h⟩
      | some t => rw [hd] at this; exact ⟨_, this, fun t' h => by injection h with h; rw [h]⟩
    let V : Nat → Value := fun i => if h : i < l.length then Classical.choose (hfact i h) else undef
    have hV : ∀ i (h : i < l.length), F i (V i) w' ∧ ∀ t, dstOf l i = some t → a.tmps.getD t undef = V i := by
      intro i h
      have := Classical.choose_spec (hfact i h)
      simp only [V, h, dif_pos]
      exact this
    have ha : a = putAll l V 0 a0 := by
      obtain ⟨h0, h1, h2, h3⟩ := putAll_spec l V 0 a0 hn
      have htm : a.tmps = (putAll l V 0 a0).tmps := by
        apply Array.ext_getElem?
        intro t
        by_cases hex : ∃ i, dstOf l i = some t
        · obtain ⟨i, hi⟩ := hex
          have hil : i < l.length := by
            rcases Nat.lt_or_ge i l.length with h | h
            · exact h
            · simp [dstOf, List.getElem?_eq_none h] at hi
          have htl := hlt' i t hi
          rw [h3 i t hi htl, Nat.zero_add, ← (hV i hil).2 t hi, Array.getD_eq_getD_getElem?, Array.getElem?_eq_getElem (by rw [hinv.size]; exact htl)]
          simp
        · rw [h2 t (fun i h => hex ⟨i, h⟩)]
          exact hinv.frame t (fun i h => (hex ⟨i, h⟩).elim)
      have hde : a.defers = (putAll l V 0 a0).defers := by rw [h1]; exact hinv.defers
      cases a
      cases hp : putAll l V 0 a0
      rw [hp] at htm hde
      simp only at htm hde
      subst htm hde
      rfl
    rw [ha]
    exact hend V w' hinv.ext fun i hi => (hV i hi).1
  · simp
  · simp [Array.getElem?_replicate] at hi

/-- the facts of the operations js, of the values V -/
def FactsV (F : Nat → Value → World → Prop) (V : Nat → Value) (w : World) : List Nat → Prop
  | [] => True
  | j :: js => F j (V j) w ∧ FactsV F V w js

/-- what operation i must keep, the frame written out over the values V -/
def ObV (P : Program) (C : World → Prop) (E : World → World → Prop) (A : (Nat → Value) → Act) (F : Nat → Value → World → Prop) (i : Nat) (o : Oper) : Prop :=
  ∀ (V : Nat → Value) (w : World), C w → FactsV F V w (depsOf o) →
    match o.guard with
    | none => Does P o (A V).eval w (Both E (F i) w)
    | some (j, want) => (∃ b, V j = .bool b ∧ (b = want → Does P o (A V).eval w (Both E (F i) w)) ∧ (b ≠ want → F i undef w)) ∨ (V j = undef ∧ F i undef w)

def ObAllV (P : Program) (C : World → Prop) (E : World → World → Prop) (A : (Nat → Value) → Act) (F : Nat → Value → World → Prop) : Nat → List Oper → Prop
  | _, [] => True
  | i, o :: os => ObV P C E A F i o ∧ ObAllV P C E A F (i + 1) os

theorem ObAllV.mono {P : Program} {C C' : World → Prop} {E : World → World → Prop} {A : (Nat → Value) → Act} {F : Nat → Value → World → Prop} (hc : ∀ w, C' w → C w) : ∀ (os : List Oper) (k : Nat), ObAllV P C E A F k os → ObAllV P C' E A F k os
  | [], _, _ => trivial
  | _ :: os, k, ⟨h0, h1⟩ => ⟨fun V w hw => h0 V w (hc w hw), ObAllV.mono hc os (k + 1) h1⟩

/-- a guard's operation writes a slot -/
def wfGuards (l : List Oper) : Bool := l.all fun o => match o.guard with | none => true | some (j, _) => (dstOf l j).isSome

theorem ObAllV.to {P : Program} {E : World → World → Prop} {w0 : World} {a0 : Act} {A : (Nat → Value) → Act} {l : List Oper} {F : Nat → Value → World → Prop}
    (hn : (l.filterMap (·.dst)).Nodup) (hlt : ∀ i t, dstOf l i = some t → t < a0.tmps.size) (hA : ∀ V, putAll l V 0 a0 = A V) (hg : wfGuards l = true) :
    ∀ (os : List Oper) (k : Nat), (∀ i o, os[i]? = some o → l[k + i]? = some o) → ObAllV P (E w0) E A F k os → ObAll P E w0 a0 l F k os
  | [], _, _, _ => trivial
  | o :: os, k, hl, ⟨h0, h1⟩ => by
    refine ⟨?_, ObAllV.to hn hlt hA hg os (k + 1) (fun i o' h => by have := hl (i + 1) o' (by simpa using h); rwa [show k + 1 + i = k + (i + 1) by omega]) h1⟩
    intro ρ w hE hfr hfacts
    classical
    let V : Nat → Value := fun j => match dstOf l j with | some t => ρ (.tmp t) | none => if h : ∃ v, F j v w then Classical.choose h else undef
    have hρ : (A V).eval = ρ := by
      rw [← hA]
      obtain ⟨s0, s1, s2, s3⟩ := putAll_spec l V 0 a0 hn
      funext x
      by_cases hx : ∃ j t, dstOf l j = some t ∧ x = .tmp t
      · obtain ⟨j, t, hd, rfl⟩ := hx
        show (putAll l V 0 a0).tmps.getD t undef = _
        rw [Array.getD_eq_getD_getElem?, s3 j t hd (hlt j t hd), Nat.zero_add]
        simp only [V, hd, Option.getD_some]
      · have hx' : ∀ t ∈ l.filterMap (·.dst), x ≠ .tmp t := by
          intro t ht e
          rw [List.mem_filterMap] at ht
          obtain ⟨o', ho', he⟩ := ht
          obtain ⟨j, hj⟩ := List.mem_iff_getElem?.1 ho'
          exact hx ⟨j, t, by simp [dstOf, hj, he], e⟩
        rw [hfr x hx']
        cases x with
        | tmp t =>
          refine getD_of (s2 t fun i hi => hx ⟨i, t, hi, rfl⟩)
        | _ => rfl
    have hfv : FactsV F V w (depsOf o) := by
      revert hfacts
      generalize depsOf o = js
      intro hfacts
      induction js with
      | nil => trivial
      | cons j js ih =>
        refine ⟨?_, ih hfacts.2⟩
        have := hfacts.1
        cases hd : dstOf l j with
        | none =>
          rw [hd] at this
          simp only [V, hd, this, dif_pos]
          exact Classical.choose_spec this
        | some t =>
          rw [hd] at this
          simp only [V, hd]
          exact this
    have hob := h0 V w hE hfv
    rw [hρ] at hob
    cases hgd : o.guard with
    | none => rw [hgd] at hob; exact hob
    | some g =>
      obtain ⟨j, want⟩ := g
      rw [hgd] at hob
      unfold wfGuards at hg
      rw [List.all_eq_true] at hg
      have hgo := hg o (List.mem_of_getElem? (hl 0 o rfl))
      rw [hgd] at hgo
      obtain ⟨t, ht⟩ := Option.isSome_iff_exists.1 hgo
      refine ⟨t, ht, ?_⟩
      rcases hob with ⟨b, hb, h2, h3⟩ | ⟨hb, h2⟩
      · exact .inl ⟨b, by simp only [V, ht] at hb; exact hb, h2, h3⟩
      · exact .inr ⟨by simp only [V, ht] at hb; exact hb, h2⟩

/-- A REGION THAT DRAWS ITS ORDER, its frame written out. -/
theorem wp_region_V {P : Program} {id : Nat} {w : World} {a0 : Act} {l : List Oper} {Q : Exit → Act → World → Prop}
    (E : World → World → Prop) (F : Nat → Value → World → Prop) (A : (Nat → Value) → Act) (hA : ∀ V, putAll l V 0 a0 = A V) (hm : P.follows .mixedOrders = true)
    (hn : (l.filterMap (·.dst)).Nodup) (hlt : ∀ t ∈ l.filterMap (·.dst), t < a0.tmps.size) (hwf : (wfDeps l && wfGuards l) = true)
    (htrans : ∀ a b c, E a b → E b c → E a c) (hrefl : ∀ a, E a a) (hF : ∀ i v w1 w2, E w.drew w1 → E w1 w2 → F i v w1 → F i v w2)
    (hob : ObAllV P (E w.drew) E A F 0 l)
    (hend : ∀ (V : Nat → Value) (w' : World), E w.drew w' → FactsV F V w' (List.range l.length) → Q .normal (A V) w') :
    (Code.region id l.toArray true).wp P Q a0 w := by
  rw [Bool.and_eq_true] at hwf
  refine wp_region_facts E F hm hn hlt hwf.1 htrans hrefl hF (ObAllV.to hn (fun i t h => hlt t ?_) hA hwf.2 l 0 (fun i o h => by rwa [Nat.zero_add]) hob) fun V w' h1 h2 => by
    rw [hA]
    refine hend V w' h1 ?_
    have : ∀ js : List Nat, (∀ j ∈ js, j < l.length) → FactsV F V w' js := by
      intro js
      induction js with
      | nil => intro _; trivial
      | cons j js ih => intro h; exact ⟨h2 j (h j (by simp)), ih fun i hi => h i (by simp [hi])⟩
    exact this _ fun j hj => List.mem_range.1 hj
  rw [List.mem_filterMap]
  simp only [dstOf, Option.bind_eq_some_iff] at h
  obtain ⟨o', ho', he⟩ := h
  exact ⟨o', List.mem_of_getElem? ho', he⟩

open Go.RowKit in
/-- .. where nothing that there was is changed. -/
theorem wp_region_B {P : Program} {id : Nat} {w : World} {a0 : Act} {l : List Oper} {Q : Exit → Act → World → Prop}
    (Fs : List (Value → World → Prop)) (A : (Nat → Value) → Act) (hA : ∀ V, putAll l V 0 a0 = A V) (hm : P.follows .mixedOrders = true)
    (hn : (l.filterMap (·.dst)).Nodup) (hlt : ∀ t ∈ l.filterMap (·.dst), t < a0.tmps.size) (hwf : (wfDeps l && wfGuards l) = true)
    (hF : ∀ F ∈ Fs, ∀ v w1 w2, Below w.heap.size w w1 → Below w1.heap.size w1 w2 → F v w1 → F v w2)
    (hob : ObAllV P (Below w.heap.size w) (fun a b => Below a.heap.size a b) A (fun i => Fs.getD i fun _ _ => True) 0 l)
    (hend : ∀ (V : Nat → Value) (w' : World), Below w.heap.size w w' → FactsV (fun i => Fs.getD i fun _ _ => True) V w' (List.range l.length) → Q .normal (A V) w') :
    (Code.region id l.toArray true).wp P Q a0 w := by
  have hd : Below w.heap.size w w.drew := (Below.refl _ _).drew
  refine wp_region_V (fun a b => Below a.heap.size a b) (fun i => Fs.getD i fun _ _ => True) A hA hm hn hlt hwf (fun a b c h k => h.trans (k.mono h.size)) (fun _ => Below.refl _ _) (fun i v w1 w2 h1 h2 h => ?_) (ObAllV.mono (fun w1 (h1 : Below w.drew.heap.size w.drew w1) => hd.trans h1) _ _ hob) fun V w' h1 h2 => hend V w' (hd.trans h1) h2
  rcases Nat.lt_or_ge i Fs.length with hi | hi
  · rw [List.getD_eq_getElem?_getD, List.getElem?_eq_getElem hi] at h ⊢
    exact hF _ (List.getElem_mem hi) v w1 w2 (hd.trans h1) h2 h
  · rw [List.getD_eq_getElem?_getD, List.getElem?_eq_none hi]; trivial

theorem stable_eq {w : World} {c : Value} {E E' : World → World → Prop} : ∀ v w1 w2, E w w1 → E' w1 w2 → (fun (v : Value) (_ : World) => v = c) v w1 → (fun (v : Value) (_ : World) => v = c) v w2 := fun _ _ _ _ _ h => h

open Go.RowKit in
/-- the call returns; nothing that there was is changed; what is returned keeps F -/
def Yields (w : World) (F : Value → World → Prop) : Ending → World → Prop := After (Both (fun a b => Below a.heap.size a b) F w)
/-- the call returns the value; nothing that there was is changed -/
def Gives (w : World) (v : Value) : Ending → World → Prop := Yields w fun u _ => u = v
open Go.RowKit in
theorem Gives.mk {w w' : World} {v : Value} {e : Ending} (he : e = .returned v) (hb : Below w.heap.size w w') : Gives w v e w' := ⟨v, he, hb, rfl⟩
end Go.Proofs.YtooocakkjdhfiaaDoor
