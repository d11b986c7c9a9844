/- Clauses: as data, and how a law measures, copies and compares them. -/
import Derived.Test.YtoekonkpephocaaLit
namespace Go.Proofs.Ytoekonkpephocaa
set_option maxRecDepth 100000
open Go.RowKit Go.ChangeShapes Go.WideShapes

/-- a clause -/
structure Cl where
  ls : List Lit
def Cl.bulk (x : Cl) : Nat := x.ls.length + Lit.bulks x.ls
def Cl.at (S : Nat → Prop) (w : World) (c0 : Value) (x : Cl) : Prop := D.rd S w c0 (Lit.sd x.ls)
theorem Cl.at_keep {S : Nat → Prop} {w w' : World} {c0 : Value} {x : Cl} (hk : Keeps S w w') (h : Cl.at S w c0 x) : Cl.at S w' c0 x := D.rd_keep hk _ _ h
theorem Cl.at_mono {S S' : Nat → Prop} {w : World} {c0 : Value} {x : Cl} (hs : ∀ b, S b → S' b) (h : Cl.at S w c0 x) : Cl.at S' w c0 x := D.rd_mono hs _ _ h
theorem Cl.at_form {S : Nat → Prop} {w : World} {c0 : Value} {x : Cl} (h : Cl.at S w c0 x) : ∃ a cap, c0 = .slice a x.ls.length cap := by
  obtain ⟨a, cap, e, _⟩ := Lit.sd_form h; exact ⟨a, cap, e⟩

set_option maxHeartbeats 400000 in
theorem szCl_any (x : Cl) : ∀ (S : Nat → Prop) (c0 : Value) (left : Int) (w : World), Cl.at S w c0 x → 0 ≤ left → left ≤ 1048576 →
    Calls Try.prog 51 #[.agg #[c0], .int .i64 left] w fun e w' => e = .returned (.int .i64 (after x.bulk left)) ∧ Below w.heap.size w w' := by
  intro S c0 left w hr h0 h1
  obtain ⟨a, cap, rfl⟩ := Cl.at_form hr
  have hB : Below w.heap.size w (w.alloc (.cells #[.slice a x.ls.length cap] 83)) := (Below.refl _ _).alloc (Nat.le_refl _) _
  replace hr := Cl.at_keep (Keeps.all hB) hr
  go_enter Try.func51, Try.ntmps51
  go_wp2_with fail
  refine (szLitS_any x.ls _ _ _ _ hr h0 h1).mono ?_
  rintro e w' ⟨rfl, hb⟩
  by_cases hl : left < (x.ls.length + Lit.bulks x.ls : Nat)
  · have HX := hid (after_neg hl)
    rw [after_neg hl]
    go_wp2_with fail
    go_ret
    exact ⟨ret_i64 HX.out.symm, hB.trans (hb.mono hB.size)⟩
  · have hge : ((x.ls.length + Lit.bulks x.ls : Nat) : Int) ≤ left := by omega
    have HX := hid (after_pos hge)
    rw [after_pos hge]
    go_wp2_with fail
    go_ret
    exact ⟨ret_i64 HX.out.symm, hB.trans (hb.mono hB.size)⟩

def MadeCl (x : Cl) (w : World) (e : Ending) (w' : World) : Prop := ∃ v F, e = .returned (.agg #[v]) ∧ D.own w' v (Lit.sd x.ls) F ∧ (∀ y ∈ F, w.heap.size ≤ y) ∧ Below w.heap.size w w'
set_option maxHeartbeats 400000 in
theorem toCl_any (x : Cl) : ∀ (S : Nat → Prop) (c0 : Value) (w : World), Cl.at S w c0 x → x.bulk ≤ 1048576 → Calls Try.prog 53 #[.agg #[c0]] w (MadeCl x w) := by
  intro S c0 w hr hbk
  obtain ⟨a, cap, rfl⟩ := Cl.at_form hr
  rw [Cl.bulk] at hbk
  go_enter Try.func53, Try.ntmps53
  go_wp2_with fail
  refine (toLitS_any x.ls S _ _ (Cl.at_keep ?hk hr) hbk).mono ?_
  case hk => exact (((Keeps.refl _ _).alloc _).alloc _).alloc _
  rintro e w1 ⟨v, F, rfl, ho, hF, hb⟩
  obtain ⟨a', cap', rfl⟩ := Lit.sd_own_form ho
  obtain ⟨hc, hf⟩ := bcell hb
  have hz := hb.size
  simp only [World.size_alloc] at hc hf hz hF
  go_wp2_with fail
  refine bodyPost_ret (v := .agg #[.slice a' x.ls.length cap']) (by simp [results, Try.results53, go_sem, hc]) rfl ?_
  refine ⟨_, F, rfl, D.own_keep _ _ _ ?_ ho, fun x hx => by have := hF x hx; omega, ?_⟩
  · exact ((Keeps.refl _ _).set_lt hF (by simp) _).set_lt hF (by simp) _
  · exact (((((Below.refl _ _).alloc (Nat.le_refl _) _).alloc (by simp) _).alloc (by simp; omega) _).trans (hb.mono (by simp; omega))).setCell (by simp; omega) _ |>.setCell (by simp) _

/-- the value is a clause that reads as x -/
def IsC (x : Cl) (v : Value) (w : World) : Prop := ∃ v', v = .agg #[v'] ∧ Cl.at (fun _ => True) w v' x
theorem IsC.form {x : Cl} {v : Value} {w : World} (h : IsC x v w) : ∃ a cap, v = .agg #[.slice a x.ls.length cap] ∧ Cl.at (fun _ => True) w (.slice a x.ls.length cap) x := by
  obtain ⟨v', rfl, h⟩ := h
  obtain ⟨a, cap, rfl⟩ := Cl.at_form h
  exact ⟨a, cap, rfl, h⟩
theorem IsC.stable {x : Cl} {w : World} : ∀ v w1 w2, Below w.heap.size w w1 → Below w1.heap.size w1 w2 → IsC x v w1 → IsC x v w2 :=
  fun _ _ _ _ hb ⟨v', e, h⟩ => ⟨v', e, Cl.at_keep (Keeps.all hb) h⟩
theorem toCl_is {x : Cl} {S : Nat → Prop} {c0 : Value} {w : World} (h : Cl.at S w c0 x) (hb : x.bulk ≤ 1048576) :
    Calls Try.prog 53 #[.agg #[c0]] w (Yields w (IsC x)) :=
  (toCl_any x S c0 w h hb).mono fun _ _ ⟨v, _, he, ho, _, hbl⟩ => ⟨_, he, hbl, v, rfl, D.rd_mono (fun _ _ => trivial) _ _ (D.own_rd _ _ _ ho)⟩

set_option maxHeartbeats 400000 in
theorem eqCl_any (x u : Cl) : ∀ (S : Nat → Prop) (c0 d0 : Value) (w : World), Cl.at S w c0 x → Cl.at S w d0 u → Calls Try.prog 55 #[.agg #[c0], .agg #[d0]] w (Gives w (.bool (Lit.eqbs x.ls u.ls))) := by
  intro S c0 d0 w hr hr'
  obtain ⟨a, cap, rfl⟩ := Cl.at_form hr
  obtain ⟨a', cap', rfl⟩ := Cl.at_form hr'
  go_enter Try.func55, Try.ntmps55
  go_wp2_with fail
  refine (eqLitS_any x.ls u.ls S _ _ _ (Cl.at_keep (((Keeps.refl _ _).alloc _).alloc _) hr) (Cl.at_keep (((Keeps.refl _ _).alloc _).alloc _) hr')).mono ?_
  rintro e w1 ⟨rfl, hb⟩
  have hb' : Below w.heap.size w w1 := (((Below.refl _ _).alloc (Nat.le_refl _) _).alloc (by simp) _).trans (hb.mono (by simp; omega))
  by_cases he : Lit.eqbs x.ls u.ls = true
  all_goals
    first | rw [he] | rw [Bool.eq_false_iff.2 he]
    go_wp2_with fail
    go_ret
    exact Gives.mk (ret_bool (by simp [he])) hb'
theorem eqCl_refl {x : Cl} {S : Nat → Prop} {c0 d0 : Value} {w : World} (h : Cl.at S w c0 x) (k : Cl.at S w d0 x) : Calls Try.prog 55 #[.agg #[c0], .agg #[d0]] w (Gives w (.bool true)) := by
  have := eqCl_any x x S c0 d0 w h k
  rwa [(Lit.eqbs_iff _ _).2 rfl] at this

theorem cellsLLiteralS : Try.prog.cellsOf 81 = 1 := by kernel_rfl
theorem cellsLClause : Try.prog.cellsOf 83 = 1 := by kernel_rfl
theorem clen1 {α : Type} {l : List α} (h : l.length = 1) : ∃ a, l = [a] := by
  match l, h with
  | [a], _ => exact ⟨a, rfl⟩
section
variable {H : Type} {enc' : TypeId × Value → H} {w : World}
theorem read_cl : ∀ (fuel : Nat) (cs : List Value) (x : DataW H × List MemPlace), DataW.trod enc' Try.prog w 0 (fun _ => true) true fuel 83 cs = some x → ∃ (v : Value) (t : Cl), cs = [v] ∧ Cl.at (fun _ => True) w v t := by
  intro fuel cs x h
  obtain ⟨xs, n, rfl, rfl, hl, hlen, hf⟩ := DataW.trod_struct Try.underlying83 h
  rw [cellsLClause] at hl
  obtain ⟨c0, rfl⟩ := clen1 hl
  have h0 := hf 0 _ rfl
  have g0 : ∃ x0, xs[0]? = some x0 := ⟨_, List.getElem?_eq_getElem (by rw [hlen]; decide)⟩
  obtain ⟨x0, g0⟩ := g0
  rw [g0] at h0
  obtain ⟨v, ts, hv, hr⟩ := open_slOf Lit.wide (by decide) Try.underlying81 cellsLLiteral (fun m cs' x' _ hx => read_lit m cs' x' hx) h0
  have hv' : c0 = v := by simpa [cellsLLiteralS] using hv
  subst hv'
  exact ⟨c0, ⟨ts⟩, rfl, hr⟩
theorem open_Clause {r : Reach} {b0 : Nat} {v : Value} {d : DataW H} {p : List MemPlace} (hv : Value.okWide Try.prog w r b0 83 v) (h : DataW.Trod enc' Try.prog w 0 (fun _ => true) true 83 v d p) :
    ∃ c0 t, v = .agg #[c0] ∧ Cl.at (fun _ => True) w c0 t := by
  obtain ⟨cs, rfl, hsz⟩ := okWide_struct Try.underlying83 hv
  obtain ⟨fuel, hf⟩ := h
  obtain ⟨v, t, ht, hr⟩ := read_cl fuel _ _ hf
  have e : cs = #[v] := by apply Array.toList_inj.1; exact ht
  subst e
  exact ⟨v, t, rfl, hr⟩
end
end Go.Proofs.Ytoekonkpephocaa
