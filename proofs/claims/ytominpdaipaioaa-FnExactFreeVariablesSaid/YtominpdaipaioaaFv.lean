/- The free variables of a formula: gathered and sorted, or put into their places: one list. Plain. -/
import Derived.Test.YtominpdaipaioaaVr
import Derived.Test.YtominpdaipaioaaFp
namespace Go.Proofs.Ytominpdaipaioaa
set_option maxRecDepth 100000

/-- the names that are not bound, each once -/
def addNew (b : List ByteArray) : List ByteArray → List ByteArray → List ByteArray
  | [], l => l
  | n :: ns, l => addNew b ns (if (hasStr b n || hasStr l n) = true then l else l ++ [n])
/-- the names that are not bound, each to its place -/
def putNew (b : List ByteArray) : List ByteArray → List ByteArray → List ByteArray
  | [], l => l
  | n :: ns, l => putNew b ns (if hasStr b n = true then l else putStr l n)
theorem addNew_snoc (b : List ByteArray) : ∀ (ns : List ByteArray) (n : ByteArray) (l : List ByteArray), addNew b (ns ++ [n]) l = if (hasStr b n || hasStr (addNew b ns l) n) = true then addNew b ns l else addNew b ns l ++ [n]
  | [], n, l => by rw [List.nil_append, addNew, addNew, addNew]
  | m :: ns, n, l => by rw [List.cons_append, addNew, addNew_snoc b ns, addNew]
theorem putNew_snoc (b : List ByteArray) : ∀ (ns : List ByteArray) (n : ByteArray) (l : List ByteArray), putNew b (ns ++ [n]) l = if hasStr b n = true then putNew b ns l else putStr (putNew b ns l) n
  | [], n, l => by rw [List.nil_append, putNew, putNew, putNew]
  | m :: ns, n, l => by rw [List.cons_append, putNew, putNew_snoc b ns, putNew]
theorem addNew_length (b : List ByteArray) : ∀ (ns l : List ByteArray), (addNew b ns l).length ≤ l.length + ns.length
  | [], l => by simp [addNew]
  | n :: ns, l => by
    rw [addNew, List.length_cons]
    by_cases h : (hasStr b n || hasStr l n) = true
    · rw [if_pos h]
      have := addNew_length b ns l
      omega
    · rw [if_neg h]
      have := addNew_length b ns (l ++ [n])
      simp only [List.length_append, List.length_cons, List.length_nil] at this
      omega
theorem putNew_length (b : List ByteArray) : ∀ (ns l : List ByteArray), (putNew b ns l).length ≤ l.length + ns.length
  | [], l => by simp [putNew]
  | n :: ns, l => by
    rw [putNew, List.length_cons]
    by_cases h : hasStr b n = true
    · rw [if_pos h]
      have := putNew_length b ns l
      omega
    · rw [if_neg h]
      have := putNew_length b ns (putStr l n)
      have := putStr_length l n
      omega
theorem addNew_mem (b : List ByteArray) (m : ByteArray) : ∀ (ns l : List ByteArray), m ∈ addNew b ns l ↔ m ∈ l ∨ (m ∈ ns ∧ m ∉ b)
  | [], l => by simp [addNew]
  | n :: ns, l => by
    rw [addNew, addNew_mem b m ns]
    have e : (hasStr b n || hasStr l n) = true ↔ n ∈ b ∨ n ∈ l := by rw [Bool.or_eq_true, hasStr_iff, hasStr_iff]
    simp only [List.mem_cons]
    by_cases h : n ∈ b ∨ n ∈ l
    · rw [if_pos (e.2 h)]
      constructor
      · rintro (q | ⟨q, r⟩)
        · exact .inl q
        · exact .inr ⟨.inr q, r⟩
      · rintro (q | ⟨rfl | q, r⟩)
        · exact .inl q
        · exact .inl (h.resolve_left r)
        · exact .inr ⟨q, r⟩
    · rw [if_neg (fun q => h (e.1 q))]
      simp only [not_or] at h
      simp only [List.mem_append, List.mem_singleton]
      constructor
      · rintro ((q | rfl) | ⟨q, r⟩)
        · exact .inl q
        · exact .inr ⟨.inl rfl, h.1⟩
        · exact .inr ⟨.inr q, r⟩
      · rintro (q | ⟨rfl | q, r⟩)
        · exact .inl (.inl q)
        · exact .inl (.inr rfl)
        · exact .inr ⟨q, r⟩
theorem putNew_mem (b : List ByteArray) (m : ByteArray) : ∀ (ns l : List ByteArray), m ∈ putNew b ns l ↔ m ∈ l ∨ (m ∈ ns ∧ m ∉ b)
  | [], l => by simp [putNew]
  | n :: ns, l => by
    rw [putNew, putNew_mem b m ns]
    have e : hasStr b n = true ↔ n ∈ b := hasStr_iff _ _
    simp only [List.mem_cons]
    by_cases h : n ∈ b
    · rw [if_pos (e.2 h)]
      constructor
      · rintro (q | ⟨q, r⟩)
        · exact .inl q
        · exact .inr ⟨.inr q, r⟩
      · rintro (q | ⟨rfl | q, r⟩)
        · exact .inl q
        · exact absurd h r
        · exact .inr ⟨q, r⟩
    · rw [if_neg (fun q => h (e.1 q)), putStr_mem]
      constructor
      · rintro ((rfl | q) | ⟨q, r⟩)
        · exact .inr ⟨.inl rfl, h⟩
        · exact .inl q
        · exact .inr ⟨.inr q, r⟩
      · rintro (q | ⟨rfl | q, r⟩)
        · exact .inl (.inr q)
        · exact .inl (.inl rfl)
        · exact .inr ⟨q, r⟩
theorem addNew_nodup (b : List ByteArray) : ∀ (ns l : List ByteArray), l.Nodup → (addNew b ns l).Nodup
  | [], l, h => by simpa [addNew] using h
  | n :: ns, l, h => by
    rw [addNew]
    refine addNew_nodup b ns _ ?_
    split
    · exact h
    · rename_i hs
      rw [Bool.or_eq_true, hasStr_iff, hasStr_iff, not_or] at hs
      rw [List.nodup_append]
      refine ⟨h, by simp, fun a ha c hc => ?_⟩
      have : c = n := by simpa using hc
      subst this
      intro e; subst e; exact hs.2 ha
theorem putNew_asc (b : List ByteArray) : ∀ (ns l : List ByteArray), Asc l → Asc (putNew b ns l)
  | [], l, h => by simpa [putNew] using h
  | n :: ns, l, h => by
    rw [putNew]
    refine putNew_asc b ns _ ?_
    split
    · exact h
    · exact asc_put _ h

/-- the names that are bound below a formula's own form -/
def scope (o : Int) (v : ByteArray) (b : List ByteArray) : List ByteArray := if quantOp o = true then b ++ [v] else b
mutual
def Fm.gath : Fm → List ByteArray → List ByteArray → List ByteArray
  | .node o a v ps, b, l => if o = 3 then addNew b (varsOf a) l else Fm.gaths ps (scope o v b) l
def Fm.gaths : List Fm → List ByteArray → List ByteArray → List ByteArray
  | [], _, l => l
  | t :: ts, b, l => Fm.gaths ts b (Fm.gath t b l)
end
mutual
def Fm.puts : Fm → List ByteArray → List ByteArray → List ByteArray
  | .node o a v ps, b, l => Fm.putss ps (scope o v b) (if o = 3 then putNew b (varsOf a) l else l)
def Fm.putss : List Fm → List ByteArray → List ByteArray → List ByteArray
  | [], _, l => l
  | t :: ts, b, l => Fm.putss ts b (Fm.puts t b l)
end
mutual
def Fm.isFree (m : ByteArray) : Fm → List ByteArray → Prop
  | .node o a v ps, b => if o = 3 then m ∈ varsOf a ∧ m ∉ b else Fm.areFree m ps (scope o v b)
def Fm.areFree (m : ByteArray) : List Fm → List ByteArray → Prop
  | [], _ => False
  | t :: ts, b => Fm.isFree m t b ∨ Fm.areFree m ts b
end
theorem Fm.gath_eq (x : Fm) (b l : List ByteArray) : x.gath b l = if x.op = 3 then addNew b (varsOf x.atom) l else Fm.gaths x.parts (scope x.op x.v b) l := by cases x; rw [Fm.gath]; rfl
theorem Fm.puts_eq (x : Fm) (b l : List ByteArray) : x.puts b l = Fm.putss x.parts (scope x.op x.v b) (if x.op = 3 then putNew b (varsOf x.atom) l else l) := by cases x; rw [Fm.puts]; rfl
theorem Fm.gaths_take (ts : List Fm) (b l : List ByteArray) (k : Nat) (hk : k < ts.length) : Fm.gaths (ts.take (k + 1)) b l = Fm.gath ts[k] b (Fm.gaths (ts.take k) b l) := by
  induction ts generalizing l k with
  | nil => exact absurd hk (by simp)
  | cons t ts ih =>
    cases k with
    | zero => simp [Fm.gaths]
    | succ k => simp only [List.take_succ_cons, Fm.gaths, List.getElem_cons_succ]; exact ih _ _ (by simpa using hk)
theorem Fm.putss_take (ts : List Fm) (b l : List ByteArray) (k : Nat) (hk : k < ts.length) : Fm.putss (ts.take (k + 1)) b l = Fm.puts ts[k] b (Fm.putss (ts.take k) b l) := by
  induction ts generalizing l k with
  | nil => exact absurd hk (by simp)
  | cons t ts ih =>
    cases k with
    | zero => simp [Fm.putss]
    | succ k => simp only [List.take_succ_cons, Fm.putss, List.getElem_cons_succ]; exact ih _ _ (by simpa using hk)
theorem Fm.gath_length (x : Fm) : ∀ b l, (x.gath b l).length ≤ l.length + x.bulk + x.size := by
  refine Fm.ind (P := fun x => ∀ b l, (x.gath b l).length ≤ l.length + x.bulk + x.size) (fun o a v ps ih b l => ?_) x
  have key : ∀ ps : List Fm, (∀ x ∈ ps, ∀ b l, (x.gath b l).length ≤ l.length + x.bulk + x.size) → ∀ b l, (Fm.gaths ps b l).length ≤ l.length + Fm.bulks ps + Fm.sizes ps := by
    intro ps
    induction ps with
    | nil => intro _ b l; simp [Fm.gaths, Fm.bulks, Fm.sizes]
    | cons t ts iht =>
      intro h b l
      have h0 := h t (by simp) b l
      have h1 := iht (fun a ha => h a (by simp [ha])) b (Fm.gath t b l)
      simp only [Fm.gaths, Fm.bulks, Fm.sizes]; omega
  have := key ps ih (scope o v b) l
  have h3 := varsOf_length a
  have h4 := addNew_length b (varsOf a) l
  rw [Fm.gath, Fm.bulk, Fm.size]
  split <;> omega
theorem Fm.gaths_length : ∀ (ps : List Fm) (b l : List ByteArray), (Fm.gaths ps b l).length ≤ l.length + Fm.bulks ps + Fm.sizes ps
  | [], b, l => by simp [Fm.gaths, Fm.bulks, Fm.sizes]
  | t :: ts, b, l => by
    have := Fm.gath_length t b l
    have := Fm.gaths_length ts b (Fm.gath t b l)
    simp only [Fm.gaths, Fm.bulks, Fm.sizes]; omega
theorem Fm.puts_length (x : Fm) : ∀ b l, (x.puts b l).length ≤ l.length + x.bulk + x.size := by
  refine Fm.ind (P := fun x => ∀ b l, (x.puts b l).length ≤ l.length + x.bulk + x.size) (fun o a v ps ih b l => ?_) x
  have key : ∀ ps : List Fm, (∀ x ∈ ps, ∀ b l, (x.puts b l).length ≤ l.length + x.bulk + x.size) → ∀ b l, (Fm.putss ps b l).length ≤ l.length + Fm.bulks ps + Fm.sizes ps := by
    intro ps
    induction ps with
    | nil => intro _ b l; simp [Fm.putss, Fm.bulks, Fm.sizes]
    | cons t ts iht =>
      intro h b l
      have h0 := h t (by simp) b l
      have h1 := iht (fun a ha => h a (by simp [ha])) b (Fm.puts t b l)
      simp only [Fm.putss, Fm.bulks, Fm.sizes]; omega
  have := key ps ih (scope o v b) (if o = 3 then putNew b (varsOf a) l else l)
  have h3 := varsOf_length a
  have h4 := putNew_length b (varsOf a) l
  rw [Fm.puts, Fm.bulk, Fm.size]
  by_cases ho : o = 3
  · rw [if_pos ho] at *; omega
  · rw [if_neg ho] at *; omega
theorem Fm.putss_length : ∀ (ps : List Fm) (b l : List ByteArray), (Fm.putss ps b l).length ≤ l.length + Fm.bulks ps + Fm.sizes ps
  | [], b, l => by simp [Fm.putss, Fm.bulks, Fm.sizes]
  | t :: ts, b, l => by
    have := Fm.puts_length t b l
    have := Fm.putss_length ts b (Fm.puts t b l)
    simp only [Fm.putss, Fm.bulks, Fm.sizes]; omega
theorem Fm.gath_mem (m : ByteArray) (x : Fm) : ∀ b l, m ∈ x.gath b l ↔ m ∈ l ∨ x.isFree m b := by
  refine Fm.ind (P := fun x => ∀ b l, m ∈ x.gath b l ↔ m ∈ l ∨ x.isFree m b) (fun o a v ps ih b l => ?_) x
  have key : ∀ ps : List Fm, (∀ x ∈ ps, ∀ b l, m ∈ x.gath b l ↔ m ∈ l ∨ x.isFree m b) → ∀ b l, m ∈ Fm.gaths ps b l ↔ m ∈ l ∨ Fm.areFree m ps b := by
    intro ps
    induction ps with
    | nil => intro _ b l; simp [Fm.gaths, Fm.areFree]
    | cons t ts iht => intro h b l; rw [Fm.gaths, Fm.areFree, iht (fun a ha => h a (by simp [ha])), h t (by simp), or_assoc]
  rw [Fm.gath, Fm.isFree]
  split
  · exact addNew_mem _ _ _ _
  · exact key ps ih _ _
theorem Fm.gath_nodup (x : Fm) : ∀ b l : List ByteArray, l.Nodup → (x.gath b l).Nodup := by
  refine Fm.ind (P := fun x => ∀ b l : List ByteArray, l.Nodup → (x.gath b l).Nodup) (fun o a v ps ih b l h => ?_) x
  have key : ∀ ps : List Fm, (∀ x ∈ ps, ∀ b l : List ByteArray, l.Nodup → (x.gath b l).Nodup) → ∀ b l : List ByteArray, l.Nodup → (Fm.gaths ps b l).Nodup := by
    intro ps
    induction ps with
    | nil => intro _ b l h; simpa [Fm.gaths] using h
    | cons t ts iht => intro hh b l h; rw [Fm.gaths]; exact iht (fun a ha => hh a (by simp [ha])) _ _ (hh t (by simp) _ _ h)
  rw [Fm.gath]
  split
  · exact addNew_nodup _ _ _ h
  · exact key ps ih _ _ h
theorem Fm.puts_asc (x : Fm) : ∀ b l : List ByteArray, Asc l → Asc (x.puts b l) := by
  refine Fm.ind (P := fun x => ∀ b l : List ByteArray, Asc l → Asc (x.puts b l)) (fun o a v ps ih b l h => ?_) x
  have key : ∀ ps : List Fm, (∀ x ∈ ps, ∀ b l : List ByteArray, Asc l → Asc (x.puts b l)) → ∀ b l : List ByteArray, Asc l → Asc (Fm.putss ps b l) := by
    intro ps
    induction ps with
    | nil => intro _ b l h; simpa [Fm.putss] using h
    | cons t ts iht => intro hh b l h; rw [Fm.putss]; exact iht (fun a ha => hh a (by simp [ha])) _ _ (hh t (by simp) _ _ h)
  rw [Fm.puts]
  refine key ps ih _ _ ?_
  split
  · exact putNew_asc _ _ _ h
  · exact h
/-- an atom has no parts -/
theorem Fm.atom_parts {x : Fm} (h : x.forms = true) (ho : x.op = 3) : x.parts = [] := by
  rw [Fm.forms_eq, Bool.and_eq_true, Fm.form, Bool.and_eq_true, Bool.and_eq_true, decide_eq_true_iff, ho] at h
  have h2 := h.1.1.1
  rw [show arity 3 = some 0 from rfl] at h2
  injection h2 with h2
  exact List.length_eq_zero_iff.1 h2.symm
theorem Fm.atom_ok {x : Fm} (h : x.forms = true) (ho : x.op = 3) : x.atom.atom = true := by
  rw [Fm.forms_eq, Bool.and_eq_true, Fm.form, Bool.and_eq_true, Bool.and_eq_true, if_pos ho] at h
  exact h.1.1.2
theorem Fm.part_forms {x : Fm} (h : x.forms = true) : ∀ p ∈ x.parts, p.forms = true := by
  rw [Fm.forms_eq, Bool.and_eq_true] at h
  exact (Fm.formsAll_iff _).1 h.2
theorem Fm.puts_mem (m : ByteArray) (x : Fm) : ∀ b l, x.forms = true → (m ∈ x.puts b l ↔ m ∈ l ∨ x.isFree m b) := by
  refine Fm.ind (P := fun x => ∀ b l, x.forms = true → (m ∈ x.puts b l ↔ m ∈ l ∨ x.isFree m b)) (fun o a v ps ih b l hf => ?_) x
  have key : ∀ ps : List Fm, (∀ x ∈ ps, ∀ b l, x.forms = true → (m ∈ x.puts b l ↔ m ∈ l ∨ x.isFree m b)) → (∀ x ∈ ps, x.forms = true) → ∀ b l, m ∈ Fm.putss ps b l ↔ m ∈ l ∨ Fm.areFree m ps b := by
    intro ps
    induction ps with
    | nil => intro _ _ b l; simp [Fm.putss, Fm.areFree]
    | cons t ts iht => intro h hh b l; rw [Fm.putss, Fm.areFree, iht (fun a ha => h a (by simp [ha])) (fun a ha => hh a (by simp [ha])), h t (by simp) _ _ (hh t (by simp)), or_assoc]
  rw [Fm.puts, Fm.isFree]
  have hp : ∀ p ∈ ps, p.forms = true := Fm.part_forms (x := .node o a v ps) hf
  by_cases ho : o = 3
  · have : ps = [] := Fm.atom_parts (x := .node o a v ps) hf ho
    subst this
    rw [if_pos ho, if_pos ho, Fm.putss]
    exact putNew_mem _ _ _ _
  · rw [if_neg ho, if_neg ho]
    exact key ps ih hp _ _
/-- the free variables, ascending -/
def Fm.frees (x : Fm) : List ByteArray := x.puts [] []
theorem Fm.frees_sorted {x : Fm} (h : x.forms = true) : ((x.gath [] []).map tl).mergeSort (fun x y => decide (x ≤ y)) = x.frees.map tl :=
  sort_eq (Fm.gath_nodup x [] [] (by simp)) (Fm.puts_asc x [] [] List.Pairwise.nil) fun m => by rw [Fm.gath_mem, Fm.frees, Fm.puts_mem m x [] [] h]
theorem Fm.frees_len {x : Fm} (h : x.forms = true) : (x.gath [] []).length = x.frees.length := by
  have := congrArg List.length (Fm.frees_sorted h)
  simpa using this
def fvR (x : Fm) : List ByteArray := if x.valid = true then x.frees else []
theorem fvR_length (x : Fm) (h : x.bulk ≤ 1048576) : (fvR x).length ≤ 2097152 := by
  unfold fvR
  split
  · rename_i hv
    rw [Fm.valid, Bool.and_eq_true, decide_eq_true_iff] at hv
    have := Fm.puts_length x [] []
    simp only [List.length_nil] at this
    unfold Fm.frees; omega
  · simp
end Go.Proofs.Ytominpdaipaioaa
