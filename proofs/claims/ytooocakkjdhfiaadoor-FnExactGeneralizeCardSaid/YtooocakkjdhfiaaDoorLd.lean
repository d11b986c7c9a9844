/- What a card's listed variables give; a world in which they lie. -/
import Derived.Test.YtooocakkjdhfiaaDoorCards
import Derived.Test.YtooocakkjdhfiaaDoorTie
import Derived.Test.YtooocakkjdhfiaaDoorBrP
import Derived.Test.YtooocakkjdhfiaaDoorD
import Derived.Lib.LaidTab
import Derived.Lib.ItoaMem
import Derived.Stop.LaidErr
import Derived.LaidSub
import Derived.LaidHandle
import Derived.LaidLaws
import Derived.SevenTiedAt
import Derived.HandedShaped
import Derived.ChangeSame
import Derived.JoinedOf
namespace Go.Proofs.YtooocakkjdhfiaaDoor
set_option maxRecDepth 100000
open Go Go.RowKit

/-- the wrap, the world's shape and what is listed both kept -/
theorem returns_both {H : Type} {enc : TypeId × Value → H} {a : Assume} {C : Checked} {os : Os} {f : FuncId} {fn : Func} {s : ChangeSpec} {conds : List PathCond} {apart fresh handsOn again : Bool} {X : World → Array Value → Prop}
    (hX : ∀ (w w' : World) (args : Array Value), w.heap = w'.heap → X w args → X w' args)
    (own : ownKnob C.prog.godebug = none) (started : os.Started) (noInit : C.prog.inits.idxOf? f = none) (hfn : C.prog.funcs[f]? = some fn)
    (witness : ∃ (w : World) (tape : Tape) (i : Input), w.os = os ∧ (w.forCall tape i).Shaped C.prog ∧ i.vars = [] ∧ Input.okWide C.prog (w.forCall tape i) .any w.heap.size f i ∧
      ((s.pre enc C.prog fn conds apart (w.forCall tape i).memory i.args ∧ X (w.forCall tape i).memory i.args) ∧ sizedMet enc C.prog fn (OpenSpec.ofChange s) apart (w.forCall tape i).memory i.args) ∧ a.holds C.prog (lone (Frame.enter C.prog f i.args .normal) [] (w.forCall tape i)))
    (contract : ∀ (W : World) (base : Nat) (args : Array Value) (ds gs : List (DataW H)) (before : List MemPlace),
      (∀ (j : Nat) t v, fn.params[j]? = some t → args[j]? = some v → Value.okWide C.prog W .any base t v) →
      DataW.Whole enc C.prog fn.params.toList s.vars apart W args.toList ds gs before →
      X W args → W.ShapedOpen C.prog →
      Calls C.prog f args W fun e W' => ∃ v, e = .returned v ∧ s.post enc C.prog fn apart fresh handsOn again W args v W') :
    ReturnsInHanded a C os f .any (fun w args => (s.pre enc C.prog fn conds apart w args ∧ X w args) ∧ sizedMet enc C.prog fn (OpenSpec.ofChange s) apart w args) (s.post enc C.prog fn apart fresh handsOn again) := by
  refine returnsInHanded_of_calls own started noInit witness ?_
  intro w tape i _ hsh _ hok hpre hholds
  obtain ⟨_, _, _, fn', hfn', _, _, _, _, hval⟩ := hok
  have e : fn' = fn := Option.some.inj (hfn'.symm.trans hfn)
  subst e
  obtain ⟨⟨⟨ds, gs, before, hw, hc⟩, hx⟩, hz⟩ := hpre
  have hw' := DataW.Whole.of_heap (w' := w.forCall tape i) (by rfl) hw
  refine (contract (w.forCall tape i) w.heap.size i.args ds gs before hval hw' (hX _ _ _ (by rfl) hx) hsh).mono fun e W' ⟨v, he, hp⟩ => ?_
  subst he
  exact ChangeSpec.post_blind hp

theorem var_keep {P : Program} {w w' : World} {n : String} {cs : Array Value} (h : w.var? P n = some cs) (hb : Below w.heap.size w w') : w'.var? P n = some cs := by
  unfold World.var? at *
  cases hg : P.globalNamed n with
  | none => rw [hg] at h; cases h
  | some g =>
    rw [hg] at h
    simp only [Option.bind_some] at *
    cases e : w.heap[g]? with
    | none => rw [e] at h; cases h
    | some o =>
      have hl : g < w.heap.size := by
        rcases Nat.lt_or_ge g w.heap.size with q | q
        · exact q
        · rw [Array.getElem?_eq_none q] at e; cases e
      rw [hb.block g hl]
      rw [e] at h ⊢
      exact h

mutual
/-- the cells of plain data -/
def cellsD : DataW Unit → List Value
  | .lit (.int k n) => [.int k n]
  | .agg ds => cellsDs ds
  | _ => []
def cellsDs : List (DataW Unit) → List Value
  | [] => []
  | d :: ds => cellsD d ++ cellsDs ds
end
noncomputable def low : Nat := (World.holding Tryd.prog default ⟨#[], #[], []⟩).heap.size
noncomputable def laidWorld (os : Os) : World :=
  let w0 := World.holding Tryd.prog os ⟨#[], #[], []⟩
  { w0 with heap := (((w0.heap.modify 1 fun | .cells _ t fr => .cells (cellsD (Rows.laid_math_bits_deBruijn32tab : DataW Unit)).toArray t fr | o => o).modify 2 fun | .cells _ t fr => .cells (cellsD (Rows.laid_math_bits_deBruijn64tab : DataW Unit)).toArray t fr | o => o).modify 0 fun | .cells _ t fr => .cells (cellsD (Rows.laid_internal_strconv_uint64pow10 : DataW Unit)).toArray t fr | o => o) }

/-- the table that Itoa reads -/
def TabF (w : World) : Prop := Lib.TabIs Tryd.prog w "internal/strconv.uint64pow10" .u64 Lib.pow10Tab
theorem TabF.keep {w w' : World} (h : TabF w) (hb : Below w.heap.size w w') : TabF w' := var_keep h hb
theorem tab_of {l : List (String × DataW Unit)} {W : World} (h : laidMet Tryd.prog l W) (hm : l.filter (fun x => x.1 == "internal/strconv.uint64pow10") = [("internal/strconv.uint64pow10", Rows.laid_internal_strconv_uint64pow10)]) : TabF W := by
  have h1 := laidMet.filter (fun x => x.1 == "internal/strconv.uint64pow10") h
  rw [hm] at h1
  exact Lib.tabIs_of_head (rest := []) (g := 0) (t := 75) (e := 68) (n := 20) (by kernel_rfl) (by kernel_rfl) (by kernel_rfl) (by kernel_rfl) (by kernel_rfl) (by kernel_rfl) h1
end Go.Proofs.YtooocakkjdhfiaaDoor
