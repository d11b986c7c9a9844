/- Lists of pairs of terms, and what an append leaves alone. -/
import Derived.Test.YtooocakkjdhfiaaDoorGp
import Derived.Test.YtooocakkjdhfiaaDoorBv
import Derived.Test.YtooocakkjdhfiaaDoorSo
import Derived.Test.YtooocakkjdhfiaaDoorAp
import Derived.Test.YtooocakkjdhfiaaDoorLa
import Derived.Test.YtooocakkjdhfiaaDoorBrT
namespace Go.Proofs.YtooocakkjdhfiaaDoor
set_option maxRecDepth 100000
open Go.RowKit

theorem Gr.apart {w w' : World} {B : Nat} {e : TypeId} {m : Nat} {v : Value} {n : Nat} {cs : List D} {F : List Nat} {r : Option Nat} (h : Gr w B e m v n cs F) (hg : w.grownBy w' r) (h1 : ∀ x, v.ownBlock = some x → ¬ r = some x) (h2 : ∀ x ∈ F, ¬ r = some x) : Gr w' B e m v n cs F := by
  obtain ⟨vs, h0, h3, h4, h5⟩ := h
  refine ⟨vs, h0.kept hg ?_, h3.keep ⟨hg.size, fun x hx hl => hg.block x hl fun e => h2 x hx e.symm⟩, h4, h5⟩
  cases hv : v.ownBlock with
  | none => exact .inl rfl
  | some x => right; intro e; exact h1 x hv e.symm
theorem Rv.apart {S : Nat → Prop} {w w' : World} {B : Nat} {e : TypeId} {m : Nat} {v : Value} {n : Nat} {ds : List D} {r : Option Nat} (h : Rv S w B e m v n ds) (hg : w.grownBy w' r) (h1 : ∀ x, v.ownBlock = some x → ¬ r = some x) (h2 : ∀ x, S x → ¬ r = some x) : Rv S w' B e m v n ds := by
  obtain ⟨vs, h0, h3⟩ := h
  refine ⟨vs, h0.kept hg ?_, h3.keep ⟨hg.size, fun x hx hl => hg.block x hl fun e => h2 x hx e.symm⟩⟩
  cases hv : v.ownBlock with
  | none => exact .inl rfl
  | some x => right; intro e; exact h1 x hv e.symm
theorem grown_setCell (w : World) (p : Addr) (u : Value) : w.grownBy (w.setCell p u) (some p.block) :=
  ⟨rfl, rfl, rfl, by simp [World.setCell], fun k _ hne => Below.heap_setCell _ _ _ _ (fun e => hne (by rw [e]))⟩
theorem Gr.own2 {w : World} {B : Nat} {e : TypeId} {m : Nat} {v : Value} {n : Nat} {cs : List D} {F : List Nat} (h : Gr w B e m v n cs F) (hm : 0 < m) : ∃ G, D.own w v (.sl n cs) G ∧ ∀ x ∈ G, v.ownBlock = some x ∨ x ∈ F := by
  obtain ⟨vs, h0, h1, h2, h3⟩ := h
  have hl := h1.length
  have hn := h0.1
  by_cases hc : cs = []
  · subst hc
    have hv : vs = [] := List.length_eq_zero_iff.1 (by simpa using hl)
    subst hv
    have hn0 : n = 0 := by
      have : n * m = 0 := by simpa using hn.symm
      rcases Nat.mul_eq_zero.1 this with q | q <;> omega
    subst hn0
    rcases h0.2 with ⟨rfl, _⟩ | ⟨g, cap, cur, rfl, _⟩
    · exact ⟨[], D.own_nil _ _, by simp⟩
    · exact ⟨[], D.own_nil _ _, by simp⟩
  · rcases h0.2 with ⟨rfl, h4⟩ | ⟨g, cap, cur, rfl, hb, hg, hcp, hmx, hs, htk⟩
    · subst h4
      have : vs = [] := List.length_eq_zero_iff.1 (by simpa using hn)
      subst this
      exact absurd (List.length_eq_zero_iff.1 (by simpa using hl.symm)) hc
    · refine ⟨g :: F, ?_, fun x hx => ?_⟩
      · rw [D.own]
        exact ⟨_, _, rfl, Nat.le_trans hcp hmx, hcp, fun _ => hc, .inr ⟨hc, g, 0, F, cur, e, rfl, hg, rfl, h3 g rfl, h1.owns 0 (Gr.cell h0)⟩⟩
      · rcases List.mem_cons.1 hx with rfl | hx
        · exact .inl rfl
        · exact .inr hx

/-- the cells of a pair -/
def prCs (x : Pr) : List D := [.str x.1.name, Tm.sd x.1.args, .str x.2.name, Tm.sd x.2.args]
def prCss (l : List Pr) : List D := l.flatMap prCs
theorem prWide : Wide prCs 4 := fun x => by simp [prCs]
theorem prCss_snoc (l : List Pr) (x : Pr) : prCss (l ++ [x]) = prCss l ++ prCs x := by simp [prCss]
theorem pr_get {S : Nat → Prop} {w : World} {a : Option Addr} {n cap : Nat} {l : List Pr} (h : D.rd S w (.slice a n cap) (slOf prCs l)) (hne : l ≠ []) :
    ∃ b off, a = some ⟨b, off, none⟩ ∧ S b ∧ b < w.heap.size ∧ ∀ k (hk : k < l.length), ∃ c0 c1 d0 d1, w.cell? ⟨b, off + k * 4, none⟩ = some c0 ∧ w.cell? ⟨b, off + k * 4 + 1, none⟩ = some c1 ∧ w.cell? ⟨b, off + k * 4 + 2, none⟩ = some d0 ∧ w.cell? ⟨b, off + k * 4 + 3, none⟩ = some d1 ∧ Tm.at S w c0 c1 l[k].1 ∧ Tm.at S w d0 d1 l[k].2 := by
  obtain ⟨b, off, q0, q1, q2, hr⟩ := slOf_get prWide (by decide) h hne
  refine ⟨b, off, q0, q1, q2, fun k hk => ?_⟩
  obtain ⟨c0, r0, s0⟩ := hr k hk 0 (.str l[k].1.name) rfl
  obtain ⟨c1, r1, s1⟩ := hr k hk 1 (Tm.sd l[k].1.args) rfl
  obtain ⟨d0, r2, s2⟩ := hr k hk 2 (.str l[k].2.name) rfl
  obtain ⟨d1, r3, s3⟩ := hr k hk 3 (Tm.sd l[k].2.args) rfl
  exact ⟨c0, c1, d0, d1, by rw [← r0]; congr 2, by rw [← r1]; congr 2, by rw [← r2]; congr 2, by rw [← r3]; congr 2, ⟨s0, s1⟩, ⟨s2, s3⟩⟩
theorem pr_rd {S : Nat → Prop} {w : World} {B : Nat} {e : TypeId} {v : Value} {l : List Pr} (h : Rv S w B e 4 v l.length (prCss l)) : D.rd (fun x => S x ∨ v.ownBlock = some x) w v (slOf prCs l) :=
  (h.mono fun _ q => .inl q).rd (by decide) fun k hk => .inr hk
theorem gen_name (t u : Tm) (l : List Pr) (h : l.length ≤ 999999) : (Tm.gen t u l).1.name.size ≤ t.name.size + 8 := by
  by_cases hc : varName t.name = false ∧ t.name = u.name ∧ t.args.length = u.args.length
  · rw [Tm.gen_in l hc.1 hc.2.1 hc.2.2]; show t.name.size ≤ _; omega
  · rw [Tm.gen_out l hc]
    have := idxP_le l t u
    have := numN_size 71 (i := idxP l t u) (by omega)
    show (numN 71 (idxP l t u)).size ≤ _
    omega
theorem genNm_bulk (t : Tm) : t.name.size ≤ t.bulk := by cases t; rw [Tm.bulk]; simp only [Tm.name]; omega
theorem genLen_bulk (t : Tm) : t.args.length ≤ t.bulk := by cases t; rw [Tm.bulk]; simp only [Tm.args]; omega
theorem genCss_snoc (ts : List Tm) (t : Tm) : Tm.css (ts ++ [t]) = Tm.css ts ++ t.cs := by
  rw [Tm.css_flat, Tm.css_flat, List.flatMap_append]; simp
theorem eqP_of {x : Pr} {t u : Tm} {p q : Bool} (h1 : Tm.eqb x.1 t = p) (h2 : Tm.eqb x.2 u = q) : eqP x t u = (p && q) := by rw [eqP, h1, h2]
theorem idxP_end {l : List Pr} {t u : Tm} (h : ∀ j (h : j < l.length), j < l.length → eqP l[j] t u = false) : idxP l t u = l.length := idxP_at (Nat.le_refl _) h (fun h => absurd h (by omega))

theorem step_append_rv {P : Program} {ops : Array Oper} {o : Oper} {a : Act} {w : World} {K : Act → World → Prop} {Q : Exit → Act → World → Prop} {E : Prop} {S : Nat → Prop} {B : Nat} {t e : TypeId} {m bytes : Nat} {z : Value} (ht : P.underlying t = some (.slice e)) (hinfo : (P.info? e).map (fun i => (i.zero, i.size, i.bytes)) = some (some z, m, bytes)) (hzs : z.cells.size = m) (hm : 0 < m) (hbytes : bytes ≤ 1000)
    (hgd : o.guard = none) (s x : Operand) (ho : o.op = .call { callee := .builtin .append, args := #[s, x], argTypes := #[t, t] })
    {v : Value} {n : Nat} {ds : List D} {b off k c : Nat} {news : List Value} {es : List D} (hs : a.eval s = v) (hx : a.eval x = .slice (some ⟨b, off, none⟩) k c) (hrow : Rv S w B e m v n ds) (hv : ∀ k, v.ownBlock = some k → ¬ S k) (hl : news.length = k * m) (hcell : ∀ j u, news[j]? = some u → w.cell? ⟨b, off + j, none⟩ = some u) (hR : CellsRd S w news es) (hn : n + k ≤ 4294967296) (hB : B ≤ w.heap.size)
    (h : ∀ v' w', Rv S w' B e m v' (n + k) (ds ++ es) → w.grownBy w' v.ownBlock → (v'.ownBlock = v.ownBlock ∨ v'.ownBlock = some w.heap.size) → K (a.put o.dst v') w') :
    if Region.wanted o (yielded ops a.tmps) = true then Oper.wp P o a w K Q else E := by
  have hw : Region.wanted o (yielded ops a.tmps) = true := by simp [Region.wanted, hgd]
  rw [if_pos hw]
  obtain ⟨v', w', hr, h2, h3, h4, h5, h6⟩ := run_append_rv (ty := o.type) (c := c) ht hinfo hzs hm hbytes hrow hv hl hcell hR hn hB
  unfold Oper.wp execOp
  simp only [ho, resolve, invoke, builtin, Sem.run_bind, Sem.run_pure, Result.andThen_ok, List.map_toArray, List.map_cons, List.map_nil, hs, hx, hr]
  exact h v' w' h2 h3 h4
end Go.Proofs.YtooocakkjdhfiaaDoor
