/- Several texts in one file. -/
import Derived.Test.YtooocakkjdhfiaaGreatDoorQ05
import Derived.Test.YtooocakkjdhfiaaGreatDoorQ08
import Derived.Test.YtooocakkjdhfiaaGreatDoorRows
import Derived.Test.YtooocakkjdhfiaaGreatDoorQ01
import Derived.Test.YtooocakkjdhfiaaGreatDoorCards
import Derived.Test.YtooocakkjdhfiaaGreatDoorTie
import Derived.Lib.LaidTab
import Derived.Lib.ItoaMem
import Derived.Stop.LaidErr
import Derived.LaidSub
import Derived.LaidHandle
import Derived.LaidLaws
import Derived.SevenTiedAt
import Derived.HandedShaped
import Derived.ChangeSame
import Derived.JoinedOf
import Derived.Lib.AtoiTie
import Derived.Lib.AtoiAllCases
import Derived.MapKept
import Derived.Maps.RangeWalk
import Derived.Laws.IdiomRangeMap
import Derived.Test.YtooocakkjdhfiaaGreatDoorQ07
/- The variables of a term, sorted: two ways, one list. Plain. -/
namespace Go.Proofs.YtooocakkjdhfiaaGreatDoor
set_option maxRecDepth 100000

theorem bl_eq : ∀ (x y : List UInt8), Op.bytesLess x y = decide (x < y)
  | [], [] => by simp [Op.bytesLess]
  | _ :: _, [] => by simp [Op.bytesLess]
  | [], _ :: _ => by simp [Op.bytesLess]
  | a :: x, b :: y => by
    rw [Op.bytesLess, bl_eq x y]
    simp only [List.cons_lt_cons_iff]
    by_cases h1 : a < b <;> by_cases h2 : a = b <;> by_cases h3 : x < y <;> simp [h1, h2, h3]
theorem bl_trans {x y z : List UInt8} (h : Op.bytesLess x y = true) (k : Op.bytesLess y z = true) : Op.bytesLess x z = true := by
  rw [bl_eq, decide_eq_true_iff] at *
  exact List.lt_trans h k
/-- names in ascending order -/
def Asc (l : List ByteArray) : Prop := l.Pairwise fun a b => Op.bytesLess a.toList b.toList = true
theorem asc_put {l : List ByteArray} (s : ByteArray) (h : Asc l) : Asc (putStr l s) := by
  induction l with
  | nil => simp [Asc, putStr]
  | cons x l ih =>
    have h1 := (List.pairwise_cons.1 h).1
    have h2 := (List.pairwise_cons.1 h).2
    rw [putStr]
    split
    · rename_i hx
      refine List.pairwise_cons.2 ⟨fun y hy => ?_, ih h2⟩
      rcases (putStr_mem l s y).1 hy with rfl | q
      · exact hx
      · exact h1 y q
    · rename_i hx
      split
      · exact h
      · rename_i hne
        have hs : Op.bytesLess s.toList x.toList = true := by
          have := bl_ge (x := x.toList) (y := s.toList) (by simpa using hx)
          rw [Bool.or_eq_true] at this
          rcases this with q | q
          · exact q
          · rw [toList_beq, decide_eq_true_iff] at q; exact absurd q.symm hne
        refine List.pairwise_cons.2 ⟨fun y hy => ?_, h⟩
        rcases List.mem_cons.1 hy with rfl | q
        · exact hs
        · exact bl_trans hs (h1 y q)
theorem asc_into (t : Tm) : ∀ l, Asc l → Asc (Tm.into t l) := by
  refine Tm.ind (P := fun t => ∀ l, Asc l → Asc (Tm.into t l)) (fun n ts ih l h => ?_) t
  rw [Tm.into]
  split
  · exact asc_put _ h
  · have key : ∀ ts : List Tm, (∀ a ∈ ts, ∀ l, Asc l → Asc (Tm.into a l)) → ∀ l, Asc l → Asc (Tm.intos ts l) := by
      intro ts
      induction ts with
      | nil => intro _ l h; simpa [Tm.intos] using h
      | cons t ts iht => intro hh l h; rw [Tm.intos]; exact iht (fun a ha => hh a (by simp [ha])) _ (hh t (by simp) l h)
    exact key ts ih l h
theorem addStr_mem (l : List ByteArray) (s m : ByteArray) : m ∈ addStr l s ↔ m ∈ l ∨ m = s := by
  unfold addStr
  split
  · rename_i h
    rw [hasStr_iff] at h
    constructor
    · exact .inl
    · rintro (q | rfl)
      · exact q
      · exact h
  · simp
theorem addStr_nodup {l : List ByteArray} (s : ByteArray) (h : l.Nodup) : (addStr l s).Nodup := by
  unfold addStr
  split
  · exact h
  · rename_i hs
    rw [hasStr_iff] at hs
    rw [List.nodup_append]
    refine ⟨h, by simp, fun a ha b hb => ?_⟩
    have : b = s := by simpa using hb
    subst this
    intro e; subst e; exact hs ha
theorem coll_mem (m : ByteArray) (t : Tm) : ∀ l, t.leafy → (m ∈ t.coll l ↔ m ∈ l ∨ Tm.hasVar m t) := by
  refine Tm.ind (P := fun t => ∀ l, t.leafy → (m ∈ t.coll l ↔ m ∈ l ∨ Tm.hasVar m t)) (fun n ts ih l h => ?_) t
  rw [Tm.leafy, Tm.leafies_iff] at h
  rw [Tm.coll, Tm.hasVar]
  by_cases hv : varName n = true
  · rw [if_pos ⟨h.1 hv, hv⟩, if_pos hv, addStr_mem, @eq_comm _ m n]
  · rw [if_neg (fun q => hv q.2), if_neg hv]
    have key : ∀ ts : List Tm, (∀ a ∈ ts, ∀ l, a.leafy → (m ∈ Tm.coll a l ↔ m ∈ l ∨ Tm.hasVar m a)) → (∀ a ∈ ts, a.leafy) → ∀ l, m ∈ Tm.colls ts l ↔ m ∈ l ∨ Tm.haveVar m ts := by
      intro ts
      induction ts with
      | nil => intro _ _ l; simp [Tm.colls, Tm.haveVar]
      | cons t ts iht =>
        intro hh hl l
        rw [Tm.colls, Tm.haveVar, iht (fun a ha => hh a (by simp [ha])) (fun a ha => hl a (by simp [ha])), hh t (by simp) l (hl t (by simp)), or_assoc]
    exact key ts ih h.2 l
theorem coll_nodup (t : Tm) : ∀ l : List ByteArray, l.Nodup → (t.coll l).Nodup := by
  refine Tm.ind (P := fun t => ∀ l : List ByteArray, l.Nodup → (t.coll l).Nodup) (fun n ts ih l h => ?_) t
  rw [Tm.coll]
  split
  · exact addStr_nodup _ h
  · have key : ∀ ts : List Tm, (∀ a ∈ ts, ∀ l : List ByteArray, l.Nodup → (Tm.coll a l).Nodup) → ∀ l : List ByteArray, l.Nodup → (Tm.colls ts l).Nodup := by
      intro ts
      induction ts with
      | nil => intro _ l h; simpa [Tm.colls] using h
      | cons t ts iht => intro hh l h; rw [Tm.colls]; exact iht (fun a ha => hh a (by simp [ha])) _ (hh t (by simp) l h)
    exact key ts ih l h

def tl (s : ByteArray) : List UInt8 := s.data.toList
theorem tl_inj {a b : ByteArray} (h : tl a = tl b) : a = b := by cases a; cases b; congr 1; exact Array.toList_inj.1 h
/-- a list without twins, sorted, is the ascending list of the same names -/
theorem sort_eq {l k : List ByteArray} (hl : l.Nodup) (hk : Asc k) (hm : ∀ m, m ∈ l ↔ m ∈ k) : (l.map tl).mergeSort (fun x y => decide (x ≤ y)) = k.map tl := by
  have hkn : (k.map tl).Pairwise (fun x y => x < y) := by
    rw [List.pairwise_map]
    refine List.Pairwise.imp (fun {a b} h => ?_) hk
    rw [ByteArray.toList_eq, ByteArray.toList_eq, bl_eq, decide_eq_true_iff] at h
    exact h
  have hkd : (k.map tl).Nodup := List.Pairwise.imp (fun {a b} h e => by subst e; exact List.lt_irrefl _ h) hkn
  have hld : (l.map tl).Nodup := by
    rw [List.nodup_iff_pairwise_ne, List.pairwise_map]
    exact List.Pairwise.imp (fun {a b} h e => h (tl_inj e)) hl
  have hp : (l.map tl).Perm (k.map tl) := (List.perm_ext_iff_of_nodup hld hkd).2 fun a => by
    simp only [List.mem_map, hm]
  refine List.Perm.eq_of_pairwise (le := fun x y => x ≤ y) (fun a b _ _ h1 h2 => List.le_antisymm h1 h2) ?_ (List.Pairwise.imp (fun {a b} h => List.le_of_lt h) hkn) ((List.mergeSort_perm _ _).trans hp)
  have := List.pairwise_mergeSort (le := fun (x y : List UInt8) => decide (x ≤ y)) (fun a b c h1 h2 => by
    simp only [decide_eq_true_iff] at *; exact List.le_trans h1 h2) (fun a b => by
    simp only [Bool.or_eq_true, decide_eq_true_iff]; exact List.le_total a b) (l.map tl)
  exact List.Pairwise.imp (fun {a b} h => by simpa using h) this
theorem vars_sorted {t : Tm} (h : t.leafy) : ((t.coll []).map tl).mergeSort (fun x y => decide (x ≤ y)) = (Tm.into t []).map tl :=
  sort_eq (coll_nodup t [] (by simp)) (asc_into t [] List.Pairwise.nil) fun m => by rw [coll_mem m t [] h, Tm.into_mem]
end Go.Proofs.YtooocakkjdhfiaaGreatDoor
/- Two closed facts of the program. -/
namespace Go.Proofs.YtooocakkjdhfiaaGreatDoor
set_option maxRecDepth 100000
open Go.RowKit Go.ChangeShapes Go.WideShapes
end Go.Proofs.YtooocakkjdhfiaaGreatDoor
/- What a card's listed variables give; a world in which they lie. -/
namespace Go.Proofs.YtooocakkjdhfiaaGreatDoor
set_option maxRecDepth 100000
open Go Go.RowKit

/-- the wrap, the world's shape and what is listed both kept -/
theorem returns_both {H : Type} {enc : TypeId × Value → H} {a : Assume} {C : Checked} {os : Os} {f : FuncId} {fn : Func} {s : ChangeSpec} {conds : List PathCond} {apart fresh handsOn again : Bool} {X : World → Array Value → Prop}
    (hX : ∀ (w w' : World) (args : Array Value), w.heap = w'.heap → X w args → X w' args)
    (own : ownKnob C.prog.godebug = none) (started : os.Started) (noInit : C.prog.inits.idxOf? f = none) (hfn : C.prog.funcs[f]? = some fn)
    (witness : ∃ (w : World) (tape : Tape) (i : Input), w.os = os ∧ (w.forCall tape i).Shaped C.prog ∧ i.vars = [] ∧ Input.okWide C.prog (w.forCall tape i) .any w.heap.size f i ∧
      ((s.pre enc C.prog fn conds apart (w.forCall tape i).memory i.args ∧ X (w.forCall tape i).memory i.args) ∧ sizedMet enc C.prog fn (OpenSpec.ofChange s) apart (w.forCall tape i).memory i.args) ∧ a.holds C.prog (lone (Frame.enter C.prog f i.args .normal) [] (w.forCall tape i)))
    (contract : ∀ (W : World) (base : Nat) (args : Array Value) (ds gs : List (DataW H)) (before : List MemPlace),
      (∀ (j : Nat) t v, fn.params[j]? = some t → args[j]? = some v → Value.okWide C.prog W .any base t v) →
      DataW.Whole enc C.prog fn.params.toList s.vars apart W args.toList ds gs before →
      X W args → W.ShapedOpen C.prog →
      Calls C.prog f args W fun e W' => ∃ v, e = .returned v ∧ s.post enc C.prog fn apart fresh handsOn again W args v W') :
    ReturnsInHanded a C os f .any (fun w args => (s.pre enc C.prog fn conds apart w args ∧ X w args) ∧ sizedMet enc C.prog fn (OpenSpec.ofChange s) apart w args) (s.post enc C.prog fn apart fresh handsOn again) := by
  refine returnsInHanded_of_calls own started noInit witness ?_
  intro w tape i _ hsh _ hok hpre hholds
  obtain ⟨_, _, _, fn', hfn', _, _, _, _, hval⟩ := hok
  have e : fn' = fn := Option.some.inj (hfn'.symm.trans hfn)
  subst e
  obtain ⟨⟨⟨ds, gs, before, hw, hc⟩, hx⟩, hz⟩ := hpre
  have hw' := DataW.Whole.of_heap (w' := w.forCall tape i) (by rfl) hw
  refine (contract (w.forCall tape i) w.heap.size i.args ds gs before hval hw' (hX _ _ _ (by rfl) hx) hsh).mono fun e W' ⟨v, he, hp⟩ => ?_
  subst he
  exact ChangeSpec.post_blind hp

theorem var_keep {P : Program} {w w' : World} {n : String} {cs : Array Value} (h : w.var? P n = some cs) (hb : Below w.heap.size w w') : w'.var? P n = some cs := by
  unfold World.var? at *
  cases hg : P.globalNamed n with
  | none => rw [hg] at h; cases h
  | some g =>
    rw [hg] at h
    simp only [Option.bind_some] at *
    cases e : w.heap[g]? with
    | none => rw [e] at h; cases h
    | some o =>
      have hl : g < w.heap.size := by
        rcases Nat.lt_or_ge g w.heap.size with q | q
        · exact q
        · rw [Array.getElem?_eq_none q] at e; cases e
      rw [hb.block g hl]
      rw [e] at h ⊢
      exact h

mutual
/-- the cells of plain data -/
def cellsD : DataW Unit → List Value
  | .lit (.int k n) => [.int k n]
  | .agg ds => cellsDs ds
  | _ => []
def cellsDs : List (DataW Unit) → List Value
  | [] => []
  | d :: ds => cellsD d ++ cellsDs ds
end
noncomputable def low : Nat := (World.holding Tryz.prog default ⟨#[], #[], []⟩).heap.size
noncomputable def laidWorld (os : Os) : World :=
  let w0 := World.holding Tryz.prog os ⟨#[], #[], []⟩
  { w0 with heap := (((w0.heap.modify 1 fun | .cells _ t fr => .cells (cellsD (Rows.laid_math_bits_deBruijn32tab : DataW Unit)).toArray t fr | o => o).modify 2 fun | .cells _ t fr => .cells (cellsD (Rows.laid_math_bits_deBruijn64tab : DataW Unit)).toArray t fr | o => o).modify 0 fun | .cells _ t fr => .cells (cellsD (Rows.laid_internal_strconv_uint64pow10 : DataW Unit)).toArray t fr | o => o) }

/-- the table that Itoa reads -/
def TabF (w : World) : Prop := Lib.TabIs Tryz.prog w "internal/strconv.uint64pow10" .u64 Lib.pow10Tab
theorem TabF.keep {w w' : World} (h : TabF w) (hb : Below w.heap.size w w') : TabF w' := var_keep h hb
theorem tab_of {l : List (String × DataW Unit)} {W : World} (h : laidMet Tryz.prog l W) (hm : l.filter (fun x => x.1 == "internal/strconv.uint64pow10") = [("internal/strconv.uint64pow10", Rows.laid_internal_strconv_uint64pow10)]) : TabF W := by
  have h1 := laidMet.filter (fun x => x.1 == "internal/strconv.uint64pow10") h
  rw [hm] at h1
  exact Lib.tabIs_of_head (rest := []) (g := 0) (t := 123) (e := 105) (n := 20) (by kernel_rfl) (by kernel_rfl) (by kernel_rfl) (by kernel_rfl) (by kernel_rfl) (by kernel_rfl) h1
end Go.Proofs.YtooocakkjdhfiaaGreatDoor
/- Numbers and their texts. Plain. -/
namespace Go.Proofs.YtooocakkjdhfiaaGreatDoor
set_option maxRecDepth 100000
open Go

/-- all bytes of a numeral are digits -/
theorem decDigits_mem (u : Nat) : ∀ b ∈ Lib.decDigits u, 48 ≤ b.toNat ∧ b.toNat ≤ 57 := by
  induction u using Nat.strongRecOn with
  | _ u ih =>
    intro b hb
    rw [Lib.decDigits] at hb
    split at hb
    · rename_i h
      rw [List.mem_singleton] at hb
      subst hb
      rw [UInt8.toNat_ofNat']
      omega
    · rename_i h
      rcases List.mem_append.1 hb with q | q
      · exact ih (u / 10) (by omega) b q
      · rw [List.mem_singleton] at q
        subst q
        rw [UInt8.toNat_ofNat']
        omega
theorem decDigits_ne (u : Nat) : Lib.decDigits u ≠ [] := by
  rw [Lib.decDigits]
  split <;> simp
theorem digitVal_of {b : UInt8} (h : 48 ≤ b.toNat ∧ b.toNat ≤ 57) : Lib.digitVal b = some (b.toNat - 48) := by rw [Lib.digitVal, if_pos h]
theorem decFrom_snoc : ∀ (l : List UInt8) (a n : Nat) (b : UInt8), Lib.decFrom a l = some n → (48 ≤ b.toNat ∧ b.toNat ≤ 57) → Lib.decFrom a (l ++ [b]) = some (n * 10 + (b.toNat - 48))
  | [], a, n, b, h, hb => by
    rw [Lib.decFrom] at h; injection h with h; subst h
    rw [List.nil_append, Lib.decFrom, digitVal_of hb]
    simp [Lib.decFrom]
  | c :: l, a, n, b, h, hb => by
    rw [Lib.decFrom] at h
    rw [List.cons_append, Lib.decFrom]
    split at h
    · exact decFrom_snoc l _ n b h hb
    · cases h
theorem decFrom_bad : ∀ (l : List UInt8) (a : Nat), (∃ b ∈ l, ¬ (48 ≤ b.toNat ∧ b.toNat ≤ 57)) → Lib.decFrom a l = none
  | [], a, h => by obtain ⟨b, hb, _⟩ := h; cases hb
  | c :: l, a, h => by
    rw [Lib.decFrom]
    by_cases hc : 48 ≤ c.toNat ∧ c.toNat ≤ 57
    · rw [digitVal_of hc]
      obtain ⟨b, hb, hn⟩ := h
      rcases List.mem_cons.1 hb with rfl | q
      · exact absurd hc hn
      · exact decFrom_bad l _ ⟨b, q, hn⟩
    · rw [Lib.digitVal, if_neg hc]
theorem decFrom_digits : ∀ (l : List UInt8) (a n : Nat), Lib.decFrom a l = some n → ∀ b ∈ l, 48 ≤ b.toNat ∧ b.toNat ≤ 57 := by
  intro l a n h b hb
  refine Classical.byContradiction fun hn => ?_
  rw [decFrom_bad l a ⟨b, hb, hn⟩] at h
  cases h
theorem decFrom_decDigits (u : Nat) : Lib.decFrom 0 (Lib.decDigits u) = some u := by
  induction u using Nat.strongRecOn with
  | _ u ih =>
    rw [Lib.decDigits]
    split
    · rename_i h
      have hb : 48 ≤ (UInt8.ofNat (48 + u)).toNat ∧ (UInt8.ofNat (48 + u)).toNat ≤ 57 := by rw [UInt8.toNat_ofNat']; omega
      rw [Lib.decFrom, digitVal_of hb, UInt8.toNat_ofNat']
      simp only [Lib.decFrom]
      congr 1; omega
    · rename_i h
      have hb : 48 ≤ (UInt8.ofNat (48 + u % 10)).toNat ∧ (UInt8.ofNat (48 + u % 10)).toNat ≤ 57 := by rw [UInt8.toNat_ofNat']; omega
      rw [decFrom_snoc _ _ _ _ (ih (u / 10) (by omega)) hb, UInt8.toNat_ofNat']
      congr 1; omega
theorem decFrom_lt : ∀ (l : List UInt8) (a n : Nat), Lib.decFrom a l = some n → n < (a + 1) * 10 ^ l.length
  | [], a, n, h => by rw [Lib.decFrom] at h; injection h with h; subst h; simp
  | c :: l, a, n, h => by
    rw [Lib.decFrom] at h
    split at h
    · rename_i d hd
      have h1 := decFrom_lt l _ n h
      rw [Lib.digitVal] at hd
      split at hd
      · injection hd with hd
        have h2 : a * 10 + d + 1 ≤ (a + 1) * 10 := by omega
        have h3 : (a * 10 + d + 1) * 10 ^ l.length ≤ (a + 1) * 10 * 10 ^ l.length := Nat.mul_le_mul_right _ h2
        rw [List.length_cons, Nat.pow_succ, Nat.mul_comm (10 ^ l.length) 10, ← Nat.mul_assoc]
        omega
      · cases hd
    · cases h
theorem nDigits_le : ∀ (k u : Nat), u < 10 ^ (k + 1) → Lib.nDigits u ≤ k + 1
  | 0, u, h => by rw [Lib.nDigits_small (by simpa using h)]; omega
  | k + 1, u, h => by
    by_cases hu : u < 10
    · rw [Lib.nDigits_small hu]; omega
    · rw [Lib.nDigits_big hu]
      have := nDigits_le k (u / 10) (by rw [Nat.div_lt_iff_lt_mul (by decide)]; rw [Nat.pow_succ] at h; exact h)
      omega
theorem decDigits_len {u : Nat} (h : u ≤ 999999) : 1 ≤ (Lib.decDigits u).length ∧ (Lib.decDigits u).length ≤ 6 := by
  refine ⟨List.length_pos_iff.2 (decDigits_ne u), ?_⟩
  rw [Lib.decDigits_length]
  exact nDigits_le 5 u (by omega)
theorem itoa_len {n : Int} (h0 : -999999 ≤ n) (h1 : n ≤ 999999) : 1 ≤ (Lib.itoa n).length ∧ (Lib.itoa n).length ≤ 7 := by
  unfold Lib.itoa
  split
  · have := decDigits_len (u := n.natAbs) (by omega)
    simp only [List.length_cons]; omega
  · have := decDigits_len (u := n.toNat) (by omega)
    omega
theorem byte_ne {b c : UInt8} (h : b.toNat ≠ c.toNat) : (b == c) = false := by
  rw [beq_eq_false_iff_ne]; intro e; subst e; exact h rfl
theorem atoi_itoa (n : Int) : Lib.atoi (Lib.itoa n) = some n := by
  unfold Lib.itoa
  split
  · rename_i h
    rw [Lib.atoi, if_pos (by rfl), Lib.decNat, if_neg (by simp [decDigits_ne]), decFrom_decDigits]
    simp; omega
  · rename_i h
    have hd := decDigits_mem n.toNat
    have hv := decFrom_decDigits n.toNat
    cases e : Lib.decDigits n.toNat with
    | nil => exact absurd e (decDigits_ne _)
    | cons b r =>
      rw [e] at hd hv
      have hb := hd b (by simp)
      rw [Lib.atoi, if_neg (by rw [byte_ne (by show b.toNat ≠ 45; omega)]; simp), if_neg (by rw [byte_ne (by show b.toNat ≠ 43; omega)]; simp), Lib.decNat, if_neg (by simp), hv]
      simp; omega
theorem atoiAll_itoa {n : Int} (h0 : -999999 ≤ n) (h1 : n ≤ 999999) : Lib.atoiAll (Lib.itoa n) = .ok n := by
  have := (itoa_len h0 h1).2
  rw [Lib.atoiAll_short _ (by omega), atoi_itoa]
  rfl

/-- what stands behind the sign -/
def unsigned : List UInt8 → List UInt8
  | 45 :: b :: r => b :: r
  | l => l
theorem unsigned_cases (l : List UInt8) : (∃ b r, l = 45 :: b :: r ∧ unsigned l = b :: r) ∨ (unsigned l = l ∧ ¬ (1 < l.length ∧ l.head? = some 45)) := by
  unfold unsigned
  split
  · exact .inl ⟨_, _, rfl, rfl⟩
  · rename_i hl
    refine .inr ⟨rfl, fun ⟨h1, h2⟩ => ?_⟩
    cases l with
    | nil => simp at h1
    | cons a r =>
      cases r with
      | nil => simp at h1
      | cons b r =>
        have : a = 45 := by simpa using h2
        subst this
        exact hl b r rfl
/-- the number, with its text's sign -/
def signedBy (l : List UInt8) (u : Nat) : Int := if (unsigned l).length < l.length then -(u : Int) else u
/-- the number of a text -/
def numOf (l : List UInt8) : Option Int :=
  if 1 ≤ (unsigned l).length ∧ (unsigned l).length ≤ 6 then
    match Lib.decFrom 0 (unsigned l) with
    | some u => if Lib.itoa (signedBy l u) = l then some (signedBy l u) else none
    | none => none
  else none
theorem numOf_iff (l : List UInt8) (n : Int) : numOf l = some n ↔ Lib.itoa n = l ∧ -999999 ≤ n ∧ n ≤ 999999 := by
  constructor
  · intro h
    unfold numOf at h
    split at h
    · rename_i hl
      split at h
      · rename_i u hu
        split at h
        · rename_i hi
          injection h with h
          rw [h] at hi
          have hlt := decFrom_lt _ _ _ hu
          have h10 : 10 ^ (unsigned l).length ≤ 10 ^ 6 := Nat.pow_le_pow_right (by decide) hl.2
          rw [signedBy] at h
          refine ⟨hi, ?_, ?_⟩ <;> (split at h <;> omega)
        · cases h
      · cases h
    · cases h
  · rintro ⟨rfl, h0, h1⟩
    by_cases hn : n < 0
    · have e : Lib.itoa n = 45 :: Lib.decDigits n.natAbs := by unfold Lib.itoa; rw [if_pos hn]
      have hu : unsigned (Lib.itoa n) = Lib.decDigits n.natAbs := by
        rw [e]
        cases e2 : Lib.decDigits n.natAbs with
        | nil => exact absurd e2 (decDigits_ne _)
        | cons b r => rfl
      have hl := decDigits_len (u := n.natAbs) (by omega)
      unfold numOf
      rw [hu, if_pos hl, decFrom_decDigits]
      have hlt : (Lib.decDigits n.natAbs).length < (Lib.itoa n).length := by rw [e]; simp
      simp only [signedBy, hu, if_pos hlt]
      rw [show -((n.natAbs : Nat) : Int) = n by omega, if_pos rfl]
    · have e : Lib.itoa n = Lib.decDigits n.toNat := by unfold Lib.itoa; rw [if_neg hn]
      have hl := decDigits_len (u := n.toNat) (by omega)
      have hu : unsigned (Lib.itoa n) = Lib.decDigits n.toNat := by
        rcases unsigned_cases (Lib.itoa n) with ⟨b, r, h, _⟩ | ⟨h, _⟩
        · have := decDigits_mem n.toNat 45 (by rw [← e, h]; simp)
          exact absurd this.1 (by decide)
        · rw [h, e]
      unfold numOf
      rw [hu, if_pos hl, decFrom_decDigits]
      have hlt : ¬ (Lib.decDigits n.toNat).length < (Lib.itoa n).length := by rw [e]; omega
      simp only [signedBy, hu, if_neg hlt]
      rw [show ((n.toNat : Nat) : Int) = n by omega, if_pos rfl]
theorem numOf_none {l : List UInt8} (h : ∀ n, -999999 ≤ n → n ≤ 999999 → Lib.itoa n ≠ l) : numOf l = none := by
  cases e : numOf l with
  | none => rfl
  | some n =>
    obtain ⟨h1, h2, h3⟩ := (numOf_iff l n).1 e
    exact absurd h1 (h n h2 h3)
end Go.Proofs.YtooocakkjdhfiaaGreatDoor
/- Maps from strings that a call makes: their memory, by a list of names and values in the order of their coming. -/
namespace Go.Proofs.YtooocakkjdhfiaaGreatDoor
set_option maxRecDepth 100000
open Go.RowKit

/-- entry i of the list -/
def ment (kv : List (ByteArray × Value)) (i : Nat) (h : i < kv.length) : MapEntry := { key := .string kv[i].1, val := kv[i].2, born := i }
/-- block b is a map that holds the list -/
def MapIs (w : World) (b : Nat) (kv : List (ByteArray × Value)) : Prop :=
  ∃ es : Array MapEntry, w.heap[b]? = some (.map es kv.length) ∧ es.size = kv.length ∧ ∀ i (h : i < kv.length), es[i]? = some (ment kv i h)
def kvLook : List (ByteArray × Value) → ByteArray → Option Value
  | [], _ => none
  | p :: l, n => if p.1 = n then some p.2 else kvLook l n
def kvPut : List (ByteArray × Value) → ByteArray → Value → List (ByteArray × Value)
  | [], n, v => [(n, v)]
  | p :: l, n, v => if p.1 = n then (n, v) :: l else p :: kvPut l n v

theorem MapIs.lt {w : World} {b : Nat} {kv : List (ByteArray × Value)} (h : MapIs w b kv) : b < w.heap.size := by
  obtain ⟨es, h0, _⟩ := h; exact lt_of_heap h0
theorem MapIs.made (w : World) : MapIs (w.alloc (.map #[] 0)) w.heap.size [] := ⟨#[], heap_alloc_new w _, rfl, fun i h => absurd h (by simp)⟩
theorem MapIs.keep {w w' : World} {b : Nat} {kv : List (ByteArray × Value)} (h : MapIs w b kv) (hk : Keeps (· = b) w w') : MapIs w' b kv := by
  have hl := h.lt
  obtain ⟨es, h0, h1⟩ := h
  exact ⟨es, (hk.block b rfl hl).trans h0, h1⟩
theorem MapIs.grown {w w' : World} {b : Nat} {row : Option Nat} {kv : List (ByteArray × Value)} (h : MapIs w b kv) (hg : w.grownBy w' row) (hn : some b ≠ row) : MapIs w' b kv := by
  have hl := h.lt
  obtain ⟨es, h0, h1⟩ := h
  exact ⟨es, (hg.block b hl hn).trans h0, h1⟩
theorem ents_toList {es : Array MapEntry} {kv : List (ByteArray × Value)} (hs : es.size = kv.length) (he : ∀ i (h : i < kv.length), es[i]? = some (ment kv i h)) : ∀ x ∈ es.toList, ∃ i h, x = ment kv i h := by
  intro x hx
  obtain ⟨i, hi, rfl⟩ := List.mem_iff_getElem.1 hx
  have hi' : i < kv.length := by rw [← hs]; simpa using hi
  refine ⟨i, hi', ?_⟩
  have := he i hi'
  rw [Array.getElem?_eq_getElem (by omega)] at this
  simpa using this
theorem kvLook_none {kv : List (ByteArray × Value)} {n : ByteArray} : (∀ p ∈ kv, p.1 ≠ n) → kvLook kv n = none := by
  induction kv with
  | nil => intro _; rfl
  | cons p l ih => intro h; rw [kvLook, if_neg (h p (by simp))]; exact ih fun q hq => h q (by simp [hq])
theorem kvLook_at {kv : List (ByteArray × Value)} {n : ByteArray} (hd : (kv.map (·.1)).Nodup) {k : Nat} (h : k < kv.length) (hk : kv[k].1 = n) : kvLook kv n = some kv[k].2 := by
  induction kv generalizing k with
  | nil => exact absurd h (by simp)
  | cons p l ih =>
    rw [List.map_cons, List.nodup_cons] at hd
    rw [kvLook]
    cases k with
    | zero =>
      have hk' : p.1 = n := hk
      rw [if_pos hk']; rfl
    | succ k =>
      have hne : p.1 ≠ n := fun e => hd.1 (by
        rw [e, ← hk]
        exact List.mem_map.2 ⟨l[k]'(by simpa using h), List.getElem_mem _, rfl⟩)
      rw [if_neg hne]
      exact ih hd.2 (by simpa using h) hk
theorem kvPut_none {kv : List (ByteArray × Value)} {n : ByteArray} {v : Value} : (∀ p ∈ kv, p.1 ≠ n) → kvPut kv n v = kv ++ [(n, v)] := by
  induction kv with
  | nil => intro _; rfl
  | cons p l ih => intro h; rw [kvPut, if_neg (h p (by simp)), ih fun q hq => h q (by simp [hq])]; rfl
theorem kvPut_at {kv : List (ByteArray × Value)} {n : ByteArray} {v : Value} (hd : (kv.map (·.1)).Nodup) {k : Nat} (h : k < kv.length) (hk : kv[k].1 = n) : kvPut kv n v = kv.set k (n, v) := by
  induction kv generalizing k with
  | nil => exact absurd h (by simp)
  | cons p l ih =>
    rw [List.map_cons, List.nodup_cons] at hd
    rw [kvPut]
    cases k with
    | zero =>
      have hk' : p.1 = n := hk
      rw [if_pos hk']; rfl
    | succ k =>
      have hne : p.1 ≠ n := fun e => hd.1 (by
        rw [e, ← hk]
        exact List.mem_map.2 ⟨l[k]'(by simpa using h), List.getElem_mem _, rfl⟩)
      rw [if_neg hne, ih hd.2 (by simpa using h) hk]
      rfl
theorem kvPut_keys (kv : List (ByteArray × Value)) (n : ByteArray) (v : Value) (hd : (kv.map (·.1)).Nodup) : ((kvPut kv n v).map (·.1)).Nodup := by
  by_cases h : ∀ p ∈ kv, p.1 ≠ n
  · rw [kvPut_none h, List.map_append]
    refine List.nodup_append.2 ⟨hd, by simp, fun a ha b hb => ?_⟩
    obtain ⟨x, hx, rfl⟩ := List.mem_map.1 ha
    simp only [List.map_cons, List.map_nil, List.mem_singleton] at hb
    subst hb
    exact h x hx
  · have : ∃ p ∈ kv, p.1 = n := Classical.byContradiction fun hc => h fun p hp e => hc ⟨p, hp, e⟩
    obtain ⟨p, hp, he⟩ := this
    obtain ⟨k, hk, rfl⟩ := List.mem_iff_getElem.1 hp
    rw [kvPut_at hd hk he, List.map_set]
    have : (kv.map (·.1)).set k n = kv.map (·.1) := by
      rw [← he]
      apply List.ext_getElem (by simp)
      intro i h1 h2
      rw [List.getElem_set]
      split
      · rename_i e; subst e; simp
      · rfl
    simp only at this ⊢
    rw [this]; exact hd

section
variable {P : Program} {w : World} {b : Nat} {kv : List (ByteArray × Value)} {T K E : TypeId}
theorem MapIs.found (es : Array MapEntry) (hs : es.size = kv.length) (he : ∀ i (h : i < kv.length), es[i]? = some (ment kv i h)) (n : ByteArray) :
    (Instr.findNow .string (.string n) es.toList 0 = some none ∧ ∀ p ∈ kv, p.1 ≠ n) ∨ ∃ j, ∃ h : j < kv.length, Instr.findNow .string (.string n) es.toList 0 = some (some (j, kv[j].2)) ∧ kv[j].1 = n := by
  have hk : ∀ x ∈ es.toList, MapKept.IsKey .string x.key := fun x hx => by obtain ⟨i, h, rfl⟩ := ents_toList hs he x hx; trivial
  rcases MapKept.findNow_spec (d := .string) (k := .string n) (by trivial) es.toList 0 hk with ⟨h1, h2⟩ | ⟨j, e, h1, h2, h3⟩
  · refine .inl ⟨h1, fun p hp e => ?_⟩
    obtain ⟨i, hi, rfl⟩ := List.mem_iff_getElem.1 hp
    have hx : ment kv i hi ∈ es.toList := by
      have := he i hi
      rw [Array.mem_toList_iff]
      exact Array.mem_of_getElem? this
    exact h2 _ hx (by rw [ment]; simp [e])
  · have hj : j < kv.length := by
      have := (List.getElem?_eq_some_iff.1 h2).1
      rw [← hs]; simpa using this
    have hej := he j hj
    have h2' : es[j]? = some e := by simpa using h2
    rw [hej] at h2'
    injection h2' with h2'
    subst h2'
    refine .inr ⟨j, hj, ?_, ?_⟩
    · rw [h1, Nat.zero_add]; rfl
    · simpa [ment] using h3
/-- v, ok := m[k] -/
theorem MapIs.run_look (h : MapIs w b kv) (hd : (kv.map (·.1)).Nodup) (hT : P.underlying T = some (.map K E)) (hK : P.underlying K = some .string) {z : Value} (hz : (zeroValue E).run P w = .ok z w) (n : ByteArray) :
    (Instr.lookup T (.map (some b)) (.string n) true).run P w = .ok (.tuple #[(kvLook kv n).getD z, .bool (kvLook kv n).isSome]) w := by
  obtain ⟨es, h0, hs, he⟩ := h
  rcases MapIs.found es hs he n with ⟨h1, h2⟩ | ⟨j, hj, h1, h2⟩
  · rw [kvLook_none h2]
    simp [Instr.lookup, run_underlying hT, MapKept.run_getObj_map h0, MapKept.run_checkKey (d := .string) (k := .string n) hK (by trivial), MapKept.run_findKey hK h1, Result.andThen, hz]
  · rw [kvLook_at hd hj h2]
    simp [Instr.lookup, run_underlying hT, MapKept.run_getObj_map h0, MapKept.run_checkKey (d := .string) (k := .string n) hK (by trivial), MapKept.run_findKey hK h1, Result.andThen]
/-- m[k] = v -/
theorem MapIs.run_put (h : MapIs w b kv) (hd : (kv.map (·.1)).Nodup) (hT : P.underlying T = some (.map K E)) (hK : P.underlying K = some .string) (n : ByteArray) (v : Value) :
    ∃ w', (Instr.mapUpdate T (.map (some b)) (.string n) v).run P w = .ok () w' ∧ MapIs w' b (kvPut kv n v) ∧ w.grownBy w' (some b) ∧ w'.heap.size = w.heap.size := by
  obtain ⟨es, h0, hs, he⟩ := h
  have hg : ∀ o : Obj, w.grownBy { w with heap := w.heap.setIfInBounds b o } (some b) := fun o =>
    ⟨rfl, rfl, rfl, by simp, fun k hk hne => by
      have : k ≠ b := fun e => hne (by rw [e])
      exact (MapKept.heap_set h0).2 k this⟩
  rcases MapIs.found es hs he n with ⟨h1, h2⟩ | ⟨j, hj, h1, h2⟩
  · rw [kvPut_none h2]
    refine ⟨_, by
      simp [Instr.mapUpdate, run_underlying hT, MapKept.run_getObj_map h0, MapKept.run_checkKey (d := .string) (k := .string n) hK (by trivial), MapKept.run_findKey hK h1, MapKept.run_setObj_map _ h0, Result.andThen]
      rfl, ⟨_, (by rw [List.length_append]; exact (MapKept.heap_set h0).1), by simp [hs], fun i hi => ?_⟩, hg _, by simp⟩
    rw [Array.getElem?_push]
    split
    · rename_i e
      subst e
      simp [ment, hs]
    · rename_i e
      have hi' : i < kv.length := by simp at hi; omega
      rw [he i hi']
      simp [ment, List.getElem_append_left hi']
  · rw [kvPut_at hd hj h2]
    have hej := he j hj
    refine ⟨_, by
      simp [Instr.mapUpdate, run_underlying hT, MapKept.run_getObj_map h0, MapKept.run_checkKey (d := .string) (k := .string n) hK (by trivial), MapKept.run_findKey hK h1, hej, ment, h2, MapKept.run_keyThatStays (d := .string) (k := .string n) (by trivial), MapKept.run_setObj_map _ h0, Result.andThen]
      rfl, ⟨_, (by rw [List.length_set]; exact (MapKept.heap_set h0).1), by simp [hs], fun i hi => ?_⟩, hg _, by simp⟩
    rw [List.length_set] at hi
    rw [Array.getElem?_modify, he i hi]
    by_cases hij : j = i
    · subst hij
      simp [ment]
    · simp [hij, ment]

/-- block r is an iterator over map b, of n entries; the places that it has handed out -/
def ItAt (w : World) (r b n : Nat) (done : List Nat) : Prop := w.heap[r]? = some (.mapIter (some b) n done.toArray n)
theorem ItAt.lt {r n : Nat} {done : List Nat} (h : ItAt w r b n done) : r < w.heap.size := lt_of_heap h
theorem ItAt.grown {w' : World} {r n : Nat} {done : List Nat} {row : Option Nat} (h : ItAt w r b n done) (hg : w.grownBy w' row) (hn : some r ≠ row) : ItAt w' r b n done := (hg.block r h.lt hn).trans h
theorem ItAt.keep {w' : World} {r n : Nat} {done : List Nat} (h : ItAt w r b n done) (hk : Keeps (· = r) w w') : ItAt w' r b n done := (hk.block r rfl h.lt).trans h
theorem MapIs.run_range (h : MapIs w b kv) (hT : P.underlying T = some (.map K E)) :
    (Instr.range T (.map (some b))).run P w = .ok (.pointer (some ⟨w.heap.size, 0, none⟩)) (w.alloc (.mapIter (some b) kv.length #[] kv.length)) := by
  obtain ⟨es, h0, hs, he⟩ := h
  exact run_range_map w T K E b es kv.length hT h0
theorem nodup_sub {l : List Nat} : ∀ {k : List Nat}, l.Nodup → (∀ x ∈ l, x ∈ k) → l.length ≤ k.length := by
  induction l with
  | nil => intro k _ _; simp
  | cons a l ih =>
    intro k hn hs
    rw [List.nodup_cons] at hn
    have ha := hs a (by simp)
    have := ih (k := k.erase a) hn.2 fun x hx => (List.mem_erase_of_ne (fun e => hn.1 (by rw [← e]; exact hx))).2 (hs x (by simp [hx]))
    rw [List.length_erase_of_mem ha] at this
    have : 0 < k.length := List.length_pos_of_mem ha
    simp; omega
theorem nodup_le {n : Nat} {l : List Nat} (hn : l.Nodup) (hl : ∀ i ∈ l, i < n) : l.length ≤ n := by
  have := nodup_sub (k := List.range n) hn fun i hi => List.mem_range.2 (hl i hi)
  simpa using this
theorem nodup_lt {n : Nat} {l : List Nat} (hn : l.Nodup) (hl : ∀ i ∈ l, i < n) (hc : l.length = n) : ∀ i, i < n → i ∈ l := by
  intro i hi
  refine Classical.byContradiction fun hm => ?_
  have := nodup_le (n := n) (l := i :: l) (List.nodup_cons.2 ⟨hm, hn⟩) fun j hj => by
    rcases List.mem_cons.1 hj with rfl | hj
    · exact hi
    · exact hl j hj
  simp at this
  omega
/-- the step: all have been handed out, or one that has not is -/
theorem MapIs.run_next (h : MapIs w b kv) {r : Nat} {done : List Nat} (hr : ItAt w r b kv.length done) (hrb : r ≠ b) (hdn : done.Nodup) (hdl : ∀ i ∈ done, i < kv.length) (ty : TypeId) :
    (done.length = kv.length ∧ (Instr.next (.pointer (some ⟨r, 0, none⟩)) false ty).run P w = .ok (.tuple #[.bool false]) w) ∨
    ∃ i, ∃ hi : i < kv.length, i ∉ done ∧ ∃ w', (Instr.next (.pointer (some ⟨r, 0, none⟩)) false ty).run P w = .ok (.tuple #[.bool true, .string kv[i].1, kv[i].2]) w' ∧ ItAt w' r b kv.length (done ++ [i]) ∧ w.grownBy w' (some r) ∧ w'.heap.size = w.heap.size ∧ MapIs w' b kv ∧
      (Instr.entry (.pointer (some ⟨r, 0, none⟩))).run P w' = .ok (.tuple #[.string kv[i].1, kv[i].2]) w' := by
  have hM := h
  obtain ⟨es, h0, hs, he⟩ := h
  have hborn : ∀ x ∈ es.toList, x.born < kv.length := fun x hx => by obtain ⟨i, hi, rfl⟩ := ents_toList hs he x hx; exact hi
  have hnd : (es.toList.map (·.born)) = List.range kv.length := by
    apply List.ext_getElem?
    intro i
    rw [List.getElem?_map, Array.getElem?_toList]
    by_cases hi : i < kv.length
    · rw [he i hi]; simp [ment, hi]
    · rw [Array.getElem?_eq_none (by omega)]; simp; omega
  unfold ItAt at hr
  have ht := next_test_false done.toArray es kv.length kv.length hborn (Nat.le_refl _)
  have key : (Instr.next (.pointer (some ⟨r, 0, none⟩)) false ty).run P w = ((do
      let candidates := (if (leftOf es done.toArray).isEmpty then #[none] else #[]) ++ (leftOf es done.toArray).map some
      match candidates[← choose (.mapNext candidates.size)]? with
      | some (some e) =>
        setObj r (.mapIter (some b) kv.length (done.toArray.push e.born) kv.length)
        pure (.tuple #[.bool true, e.key, e.val])
      | some none => pure (.tuple #[.bool false])
      | none => stuck "Next: no such candidate") : Sem Value).run P w := by
    have hmem : ∀ x ∈ (leftOf es done.toArray).toList, x.born < kv.length := fun x hx => hborn x (mem_left hx).1
    simp only [Instr.next, getObj, Sem.run_bind, Sem.run, hr, h0, Result.andThen, ht, Bool.false_eq_true, if_false]
    change _ = _
    have e1 : (es.filter fun e => !done.toArray.contains e.born) = leftOf es done.toArray := rfl
    rw [e1]
    generalize leftOf es done.toArray = L at hmem ⊢
    have f1 : L.filter (fun x => decide (x.born < kv.length)) = L := Array.filter_eq_self.2 (fun x hx => by simpa using hmem x (by simpa using hx))
    have f2 : L.filter (fun x => decide (x.born ≥ kv.length)) = #[] := by
      rw [Array.filter_eq_empty_iff]
      intro x hx
      have := hmem x (by simpa using hx)
      simp
      omega
    simp only [f1, f2, Array.append_empty]
    rfl
  by_cases hz : (leftOf es done.toArray).size = 0
  · left
    have hall := all_seen es done.toArray hz
    have hin : ∀ i, i < kv.length → i ∈ done := fun i hi => by
      have hx : ment kv i hi ∈ es.toList := by rw [Array.mem_toList_iff]; exact Array.mem_of_getElem? (he i hi)
      have := hall _ hx
      simpa [ment] using this
    refine ⟨Nat.le_antisymm (nodup_le hdn hdl) ?_, ?_⟩
    · have := nodup_sub (l := List.range kv.length) (k := done) List.nodup_range fun i hi => hin i (List.mem_range.1 hi)
      simpa using this
    · have hL : leftOf es done.toArray = #[] := Array.eq_empty_of_size_eq_zero hz
      rw [key, hL]
      simp [choose, Sem.run, Question.forced]
  · right
    have hne : (leftOf es done.toArray).isEmpty = false := by simp [Array.isEmpty, hz]
    have hch : ∃ (j : Nat) (w1 : World), ∃ hj : j < (leftOf es done.toArray).size, w1.heap = w.heap ∧ w1.os = w.os ∧ w1.tape = w.tape ∧ w1.output = w.output ∧ (choose (Question.mapNext (leftOf es done.toArray).size)).run P w = .ok j w1 := by
      by_cases hf : (leftOf es done.toArray).size ≤ 1
      · exact ⟨0, w, by omega, rfl, rfl, rfl, rfl, by simp [choose, Sem.run, Question.forced, hf]⟩
      · exact ⟨_, w.drew, Nat.mod_lt _ (by omega), rfl, rfl, rfl, rfl, by
          simp only [choose, Sem.run, Question.forced, decide_eq_true_eq, hf, if_false, Question.cut]
          rfl⟩
    obtain ⟨j, w1, hj, hh, ho, htp, hou, hrun⟩ := hch
    have hmem : (leftOf es done.toArray)[j] ∈ (leftOf es done.toArray).toList := by simp
    obtain ⟨hx1, hx2⟩ := mem_left hmem
    obtain ⟨i, hi, hei⟩ := ents_toList hs he _ hx1
    have hnotin : i ∉ done := by rw [hei] at hx2; simpa [ment] using hx2
    have h0' : w1.heap[r]? = some (.mapIter (some b) kv.length done.toArray kv.length) := by rw [hh]; exact hr
    have hset := MapKept.heap_set (o' := .mapIter (some b) kv.length (done.toArray.push i) kv.length) h0'
    have hrs : (setObj r (.mapIter (some b) kv.length (done.toArray.push i) kv.length)).run P w1 = .ok () { w1 with heap := w1.heap.setIfInBounds r (.mapIter (some b) kv.length (done.toArray.push i) kv.length) } := by simp [setObj, Sem.run, h0']
    have hbw : ({ w1 with heap := w1.heap.setIfInBounds r (.mapIter (some b) kv.length (done.toArray.push i) kv.length) } : World).heap[b]? = some (.map es kv.length) := (hset.2 b (Ne.symm hrb)).trans (by rw [hh]; exact h0)
    refine ⟨i, hi, hnotin, { w1 with heap := w1.heap.setIfInBounds r (.mapIter (some b) kv.length (done.toArray.push i) kv.length) }, ?_, ?_, ⟨ho, htp, hou, by simp [hh], fun k hk hn => ?_⟩, by simp [hh], ⟨es, hbw, hs, he⟩, ?_⟩
    · rw [key]
      simp only [hne, Bool.false_eq_true, if_false, Array.empty_append, Array.size_map, Sem.run_bind, hrun, Result.andThen, Array.getElem?_map, Array.getElem?_eq_getElem hj, Option.map_some, hei, ment]
      simp only [hrs]
      rfl
    · rw [ItAt]
      refine hset.1.trans ?_
      simp
    · have : k ≠ r := fun e => hn (by rw [e])
      exact (hset.2 k this).trans (by rw [hh])
    · have hf : es.find? (·.born == i) = some (ment kv i hi) := by
        rw [← Array.find?_toList]
        have := find_born (ment kv i hi) es.toList (by rw [hnd]; exact List.nodup_range) (by rw [Array.mem_toList_iff]; exact Array.mem_of_getElem? (he i hi))
        exact this
      have hrr : ({ w1 with heap := w1.heap.setIfInBounds r (.mapIter (some b) kv.length (done.toArray.push i) kv.length) } : World).heap[r]? = some (.mapIter (some b) kv.length (done.toArray.push i) kv.length) := hset.1
      simp only [Instr.entry, getObj, Sem.run_bind, Sem.run, hrr, hbw, Result.andThen, Array.back?_push, bne_self_eq_false, Bool.false_eq_true, if_false, hf]
      rfl
end

section
variable {P : Program} {ops : Array Oper} {rest : List Oper} {o : Oper} {a : Act} {w : World} {Q : Exit → Act → World → Prop} {b : Nat} {kv : List (ByteArray × Value)} {T K E : TypeId}
/-- .. at the list of a plain region's operations -/
theorem wpList_put (hg : o.guard = none) (m x v : Operand) (hop : o.op = Op.mapUpdate T m x v) (h : MapIs w b kv) (hd : (kv.map (·.1)).Nodup) (hT : P.underlying T = some (.map K E)) (hK : P.underlying K = some .string) {n : ByteArray} {u : Value}
    (hm : a.eval m = .map (some b)) (hx : a.eval x = .string n) (hv : a.eval v = u)
    (hC : ∀ w', MapIs w' b (kvPut kv n u) → w.grownBy w' (some b) → w'.heap.size = w.heap.size → wpList P ops Q rest (a.put o.dst undef) w') : wpList P ops Q (o :: rest) a w := by
  refine wpList_plain hg fun K' hK' => ?_
  obtain ⟨w', hrun, h1, h2, h3⟩ := h.run_put (P := P) hd hT hK n u
  unfold Oper.wp
  simp [execOp, hop, hm, hx, hv, hrun, Result.andThen]
  exact hK' _ _ (hC w' h1 h2 h3)
theorem wpList_look (hg : o.guard = none) (m x : Operand) (hop : o.op = Op.lookup T m x true) (h : MapIs w b kv) (hd : (kv.map (·.1)).Nodup) (hT : P.underlying T = some (.map K E)) (hK : P.underlying K = some .string) {z : Value} (hz : (zeroValue E).run P w = .ok z w) {n : ByteArray}
    (hm : a.eval m = .map (some b)) (hx : a.eval x = .string n)
    (hC : wpList P ops Q rest (a.put o.dst (.tuple #[(kvLook kv n).getD z, .bool (kvLook kv n).isSome])) w) : wpList P ops Q (o :: rest) a w := by
  refine wpList_plain hg fun K' hK' => ?_
  have hrun := h.run_look (P := P) hd hT hK hz n
  unfold Oper.wp
  simp [execOp, hop, hm, hx, hrun, Result.andThen]
  exact hK' _ _ hC
theorem wpList_rng (hg : o.guard = none) (m : Operand) (hop : o.op = Op.range T m) (h : MapIs w b kv) (hT : P.underlying T = some (.map K E)) (hm : a.eval m = .map (some b))
    (hC : ItAt (w.alloc (.mapIter (some b) kv.length #[] kv.length)) w.heap.size b kv.length [] → MapIs (w.alloc (.mapIter (some b) kv.length #[] kv.length)) b kv → wpList P ops Q rest (a.put o.dst (.pointer (some ⟨w.heap.size, 0, none⟩))) (w.alloc (.mapIter (some b) kv.length #[] kv.length))) : wpList P ops Q (o :: rest) a w := by
  refine wpList_plain hg fun K' hK' => ?_
  have hrun := h.run_range (P := P) hT
  unfold Oper.wp
  simp [execOp, hop, hm, hrun, Result.andThen]
  exact hK' _ _ (hC (heap_alloc_new w _) (h.keep ((Keeps.refl _ _).alloc _)))
theorem wpList_nxt (hg : o.guard = none) (it : Operand) (hop : o.op = Op.next it false) (h : MapIs w b kv) {r : Nat} {done : List Nat} (hr : ItAt w r b kv.length done) (hrb : r ≠ b) (hdn : done.Nodup) (hdl : ∀ i ∈ done, i < kv.length) (hit : a.eval it = .pointer (some ⟨r, 0, none⟩))
    (hDone : done.length = kv.length → wpList P ops Q rest (a.put o.dst (.tuple #[.bool false])) w)
    (hMore : ∀ i (hi : i < kv.length) w', i ∉ done → ItAt w' r b kv.length (done ++ [i]) → w.grownBy w' (some r) → w'.heap.size = w.heap.size → MapIs w' b kv → (Instr.entry (.pointer (some ⟨r, 0, none⟩))).run P w' = .ok (.tuple #[.string kv[i].1, kv[i].2]) w' →
      wpList P ops Q rest (a.put o.dst (.tuple #[.bool true, .string kv[i].1, kv[i].2])) w') : wpList P ops Q (o :: rest) a w := by
  refine wpList_plain hg fun K' hK' => ?_
  unfold Oper.wp
  rcases h.run_next (P := P) hr hrb hdn hdl o.type with ⟨h1, hrun⟩ | ⟨i, hi, hni, w', hrun, h2, h3, h4, h5, h6⟩
  · simp [execOp, hop, hit, hrun, Result.andThen]
    exact hK' _ _ (hDone h1)
  · simp [execOp, hop, hit, hrun, Result.andThen]
    exact hK' _ _ (hMore i hi w' hni h2 h3 h4 h5 h6)
end
end Go.Proofs.YtooocakkjdhfiaaGreatDoor
/- The order of strings: plain. -/
namespace Go.Proofs.YtooocakkjdhfiaaGreatDoor
set_option maxRecDepth 100000
open Go.RowKit

theorem blt_eq : ∀ (x y : List UInt8), Op.bytesLess x y = decide (x < y)
  | [], [] => by simp [Op.bytesLess]
  | _ :: _, [] => by simp [Op.bytesLess]
  | [], _ :: _ => by simp [Op.bytesLess]
  | a :: x, b :: y => by
    rw [Op.bytesLess, blt_eq x y]
    simp only [List.cons_lt_cons_iff]
    by_cases h1 : a < b <;> by_cases h2 : a = b <;> by_cases h3 : x < y <;> simp [h1, h2, h3]
theorem blt_trans {x y z : List UInt8} (h : Op.bytesLess x y = true) (k : Op.bytesLess y z = true) : Op.bytesLess x z = true := by
  rw [blt_eq, decide_eq_true_iff] at *
  exact List.lt_trans h k
theorem strCmp_lt (a b : ByteArray) : strCmp a b < 0 ↔ Op.bytesLess a.toList b.toList = true := by
  unfold strCmp
  split
  · rename_i h; simp [h]
  · rename_i h
    split <;> simp [h]
theorem bl_ntrans {x y z : List UInt8} (h : Op.bytesLess x y = false) (k : Op.bytesLess y z = false) : Op.bytesLess x z = false := by
  rw [Bool.eq_false_iff]
  intro e
  have h1 := bl_ge h
  rw [Bool.or_eq_true] at h1
  rcases h1 with h1 | h1
  · rw [blt_trans h1 e] at k; cases k
  · rw [beq_iff_eq.1 h1, e] at k; cases k
end Go.Proofs.YtooocakkjdhfiaaGreatDoor
