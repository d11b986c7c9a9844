/- A list of strings is cloned: slices.Clone. -/
import Derived.Test.YthpookgpmnbilaaAp
import Derived.Test.YthpookgpmnbilaaSe
import Derived.Deep.RegionHeld3
import Derived.Lib.SliceRun
namespace Go.Proofs.Ythpookgpmnbilaa
set_option maxRecDepth 100000
open Go.RowKit

/-- nil, or a slice with a place -/
def Shp (v : Value) : Prop := v = .slice none 0 0 ∨ ∃ b off n c, v = .slice (some ⟨b, off, none⟩) n c
theorem Row.shp {w : World} {B : Nat} {v : Value} {ss : List ByteArray} (h : Row w B v ss) : Shp v := by
  rcases h.1.2 with ⟨h1, h0⟩ | ⟨g, cap, cur, rfl, _⟩
  · exact .inl h1
  · exact .inr ⟨g, 0, _, cap, rfl⟩
theorem keeps_v {w w' : World} {v : Value} (hg : w.grownBy w' v.ownBlock) : Keeps (fun x => x < w.heap.size ∧ v.ownBlock ≠ some x) w w' := ⟨hg.size, fun b hb hl => hg.block b hl fun e => hb.2 e.symm⟩
theorem rd_strs_nil0 {S : Nat → Prop} {w : World} {a : Option Addr} {n c : Nat} {ss : List ByteArray} (h : D.rd S w (.slice a n c) (slOf strE ss)) (ha : a = none) : ss = [] := by
  refine Classical.byContradiction fun hne => ?_
  obtain ⟨b, off, e, _⟩ := strs_get h hne
  rw [ha] at e; cases e
/-- append of a list, at the list of a plain region's operations -/
theorem wpList_append_strs {ops : Array Oper} {rest : List Oper} {o : Oper} {a : Act} {w : World} {Q : Exit → Act → World → Prop} (hgd : o.guard = none) (s x : Operand)
    (ho : o.op = .call { callee := .builtin .append, args := #[s, x], argTypes := #[56, 56] }) {B : Nat} {v : Value} {ss ys : List ByteArray} {b off m c : Nat}
    (hs : a.eval s = v) (hx : a.eval x = .slice (some ⟨b, off, none⟩) m c) (hrow : Row w B v ss) (hm : m = ys.length) (hcell : ∀ j (hj : j < ys.length), w.cell? ⟨b, off + j, none⟩ = some (.string ys[j])) (hy : ∀ y ∈ ys, y.size ≤ maxLen) (hl : ss.length + ys.length ≤ 4294967296) (hB : B ≤ w.heap.size)
    (h : ∀ v' w', Row w' B v' (ss ++ ys) → w.grownBy w' v.ownBlock → Goes w v v' → (v ≠ .slice none 0 0 → v' ≠ .slice none 0 0) → wpList Try.prog ops Q rest (a.put o.dst v') w') : wpList Try.prog ops Q (o :: rest) a w := by
  obtain ⟨v', w', hr, h2, h3, h4, h5⟩ := run_append_strs (c := c) hrow o.type hm hcell hy hl hB
  refine wpList_plain hgd fun _ hK => ?_
  unfold Oper.wp execOp
  simp only [ho, resolve, invoke, builtin, Sem.run_bind, Sem.run_pure, Result.andThen_ok, List.map_toArray, List.map_cons, List.map_nil, hs, hx, hr]
  exact hK _ _ (h v' w' h2 h3 h4 h5)
set_option maxHeartbeats 2000000 in
theorem clone_any {ss : List ByteArray} {S : Nat → Prop} {v : Value} {w : World} (hv : D.rd S w v (slOf strE ss)) (hs : Shp v) (hn : ss.length ≤ 1073741824) : Calls Try.prog 52 #[v] w fun e w' => ∃ v', e = .returned v' ∧ Row w' w.heap.size v' ss ∧ Below w.heap.size w w' := by
  have qn : ∀ (w : World) (a : Option Addr) (n c n' c' : Nat), (Go.binOp BinOp.eql 56 (.slice a n c) (.slice none n' c')).run Try.prog w = Result.ok (Value.bool a.isNone) w := fun w a n c n' c' => Lib.run_eql_slice_nil w _ _ a n c n' c' Try.underlying56
  rcases hs with rfl | ⟨b, off, n, c, rfl⟩
  · obtain rfl := rd_strs_nil0 hv rfl
    go_enter Try.func52, Try.ntmps52
    go_wp2_with fail
    go_ret
    exact ⟨_, rfl, Row.nil _ _, Below.refl _ _⟩
  · obtain ⟨_, _, e, hlen, hcap⟩ := slOf_form hv
    obtain rfl : n = ss.length := by injection e
    have hA : Below w.heap.size w (w.alloc (.cells #[] 9)) := (Below.refl _ _).alloc (Nat.le_refl _) _
    have hr := strs_get hv
    have hc : ∀ j (hj : j < ss.length), (w.alloc (.cells #[] 9)).cell? ⟨b, off + j, none⟩ = some (.string ss[j]) := fun j hj => by
      obtain ⟨b', off', e', _, hbl, hrr⟩ := hr (by intro q; subst q; simp at hj)
      injection e' with e'; injection e' with e1 e2; subst e1 e2
      exact cell_alloc (hrr j hj).1 _
    have hy : ∀ y ∈ ss, y.size ≤ maxLen := fun y hy => by
      obtain ⟨j, hj, rfl⟩ := List.mem_iff_getElem.1 hy
      obtain ⟨b', off', e', _, hbl, hrr⟩ := hr (by intro q; subst q; simp at hj)
      exact (hrr j hj).2
    have HC := hid hc
    have HY := hid hy
    clear hc hy hr e
    go_enter Try.func52, Try.ntmps52
    go_wp2_with (at_builtin; refine wpList_append_strs (B := w.heap.size) (ss := []) (ys := ss) rfl _ _ rfl (by rfl) (by rfl) (Row.made w (Nat.le_refl _)) rfl HC.out HY.out (by simp; omega) (by simp) ?_; intro v2 w2 hr2 hg2 hgo2 hn2)
    go_ret
    exact ⟨_, rfl, by simpa using hr2, hA.grown hg2 (by simp) fun k hk => by
      have : w.heap.size = k := by injection hk
      exact Nat.le_of_eq this⟩

end Go.Proofs.Ythpookgpmnbilaa
