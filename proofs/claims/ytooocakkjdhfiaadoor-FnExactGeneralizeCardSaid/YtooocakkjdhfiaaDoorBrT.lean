/- An argument that is a term, or a slice of terms, read as data. -/
import Derived.Test.YtooocakkjdhfiaaDoorRows
import Derived.Test.YtooocakkjdhfiaaDoorTm
import Derived.Test.YtooocakkjdhfiaaDoorBr
namespace Go.Proofs.YtooocakkjdhfiaaDoor
set_option maxRecDepth 100000
open Go.RowKit Go.ChangeShapes Go.WideShapes

theorem Tm.cs_wide : Wide Tm.cs 2 := fun y => by cases y; simp [Tm.cs]
theorem Tm.css_flat (ts : List Tm) : Tm.css ts = ts.flatMap Tm.cs := by
  induction ts with
  | nil => simp [Tm.css]
  | cons t ts ih => simp [Tm.css, ih]
theorem Tm.sd_slOf (ts : List Tm) : Tm.sd ts = slOf Tm.cs ts := by rw [Tm.sd, slOf, Tm.css_flat]

theorem len2 {α : Type} {l : List α} (h : l.length = 2) : ∃ a b, l = [a, b] := by
  match l, h with
  | [a, b], _ => exact ⟨a, b, rfl⟩

theorem cellsStr : Tryd.prog.cellsOf 9 = 1 := by kernel_rfl
theorem cellsLTermS : Tryd.prog.cellsOf 22 = 1 := by kernel_rfl
theorem cellsLTerm : Tryd.prog.cellsOf 24 = 2 := by kernel_rfl

section
variable {H : Type} {enc' : TypeId × Value → H} {w : World}

theorem read_term : ∀ (fuel : Nat) (cs : List Value) (x : DataW H × List MemPlace), DataW.trod enc' Tryd.prog w 0 (fun _ => true) true fuel 24 cs = some x → ∃ t : Tm, CellsRd (fun _ => True) w cs t.cs := by
  intro fuel
  induction fuel using Nat.strongRecOn with
  | _ fuel ih =>
    intro cs x h
    obtain ⟨xs, n, rfl, rfl, hl, hlen, hf⟩ := DataW.trod_struct Tryd.underlying24 h
    rw [cellsLTerm] at hl
    obtain ⟨c0, c1, rfl⟩ := len2 hl
    have h0 := hf 0 _ rfl
    have h1 := hf 1 _ rfl
    have g0 : ∃ x0, xs[0]? = some x0 := ⟨_, List.getElem?_eq_getElem (by rw [hlen]; decide)⟩
    have g1 : ∃ x1, xs[1]? = some x1 := ⟨_, List.getElem?_eq_getElem (by rw [hlen]; decide)⟩
    obtain ⟨x0, g0⟩ := g0
    obtain ⟨x1, g1⟩ := g1
    rw [g0] at h0
    rw [g1] at h1
    obtain ⟨s, hs, -, hsz⟩ := DataW.trod_string Tryd.underlying9 h0
    have hs' : c0 = .string s := by simpa [cellsStr] using hs
    obtain ⟨v, ts, hv, hr⟩ := open_slOf Tm.cs_wide (by decide) Tryd.underlying22 cellsLTerm (fun m cs' x' hm hx => ih m (by omega) cs' x' hx) h1
    have hv' : c1 = v := by simpa [cellsLTermS] using hv
    subst hs' hv'
    refine ⟨.node s ts, ?_⟩
    rw [Tm.cs]
    exact ⟨D.rd_str hsz, by rw [← Tm.sd, Tm.sd_slOf]; exact hr, trivial⟩


theorem open_Term {r : Reach} {b0 : Nat} {v : Value} {d : DataW H} {p : List MemPlace} (hv : Value.okWide Tryd.prog w r b0 24 v) (h : DataW.Trod enc' Tryd.prog w 0 (fun _ => true) true 24 v d p) :
    ∃ c0 c1 t, v = .agg #[c0, c1] ∧ Tm.at (fun _ => True) w c0 c1 t := by
  obtain ⟨cs, rfl, hsz⟩ := okWide_struct Tryd.underlying24 hv
  obtain ⟨fuel, hf⟩ := h
  obtain ⟨t, ht⟩ := read_term fuel _ _ hf
  obtain ⟨n, ts⟩ := t
  have hl : cs.toList.length = 2 := by simpa using hsz.trans cellsLTerm
  obtain ⟨c0, c1, hc⟩ := len2 hl
  have e : cs = #[c0, c1] := by apply Array.toList_inj.1; rw [hc]
  subst e
  rw [Tm.cs] at ht
  exact ⟨c0, c1, .node n ts, rfl, ht.1, ht.2.1⟩
end
theorem laidOut : laidOutB Tryd.prog = true := by kernel_rfl
theorem own : ownKnob Tryd.prog.godebug = none := by kernel_rfl
end Go.Proofs.YtooocakkjdhfiaaDoor
