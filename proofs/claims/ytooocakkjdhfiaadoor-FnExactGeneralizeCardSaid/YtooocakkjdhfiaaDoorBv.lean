/- Lists that grow, of which the call owns the row alone: what the items' slices lead to is another's. -/
import Derived.Test.YtooocakkjdhfiaaDoorGr
import Derived.Test.YtooocakkjdhfiaaDoorBr
import Derived.Laws.AppendOwnNone
namespace Go.Proofs.YtooocakkjdhfiaaDoor
set_option maxRecDepth 100000
open Go.RowKit

theorem CellsRd.keep {S : Nat → Prop} {w w' : World} (hk : Keeps S w w') : ∀ {vs : List Value} {ds : List D}, CellsRd S w vs ds → CellsRd S w' vs ds
  | [], [], _ => trivial
  | [], _ :: _, h => h.elim
  | _ :: _, [], h => h.elim
  | _ :: _, _ :: _, ⟨h0, h1⟩ => ⟨D.rd_keep hk _ _ h0, CellsRd.keep hk h1⟩
theorem CellsRd.mono {S S' : Nat → Prop} {w : World} (hs : ∀ b, S b → S' b) : ∀ {vs : List Value} {ds : List D}, CellsRd S w vs ds → CellsRd S' w vs ds
  | [], [], _ => trivial
  | [], _ :: _, h => h.elim
  | _ :: _, [], h => h.elim
  | _ :: _, _ :: _, ⟨h0, h1⟩ => ⟨D.rd_mono hs _ _ h0, CellsRd.mono hs h1⟩
theorem CellsRd.append {S : Nat → Prop} {w : World} : ∀ {vs : List Value} {ds : List D} {us : List Value} {es : List D}, CellsRd S w vs ds → CellsRd S w us es → CellsRd S w (vs ++ us) (ds ++ es)
  | [], [], _, _, _, k => k
  | [], _ :: _, _, _, h, _ => h.elim
  | _ :: _, [], _, _, h, _ => h.elim
  | _ :: _, _ :: _, _, _, ⟨h0, h1⟩, k => ⟨h0, CellsRd.append h1 k⟩
theorem CellsRd.length {S : Nat → Prop} {w : World} {vs : List Value} {ds : List D} (h : CellsRd S w vs ds) : vs.length = ds.length := h.get.1
theorem CellsRd.rds {S : Nat → Prop} {w : World} {b : Nat} : ∀ {vs : List Value} {ds : List D} (off : Nat), CellsRd S w vs ds → (∀ i (h : i < vs.length), w.cell? ⟨b, off + i, none⟩ = some vs[i]) → D.rds S w b off ds
  | [], [], _, _, _ => by rw [D.rds]; trivial
  | [], _ :: _, _, h, _ => h.elim
  | _ :: _, [], _, h, _ => h.elim
  | v :: vs, d :: ds, off, ⟨h0, h1⟩, hc => by
    rw [D.rds]
    refine ⟨⟨v, hc 0 (by simp), h0⟩, CellsRd.rds (off + 1) h1 fun i hi => ?_⟩
    have := hc (i + 1) (by simpa using hi)
    rw [show off + (i + 1) = off + 1 + i by omega] at this
    simpa using this
theorem rds_cells {S : Nat → Prop} {w : World} {b : Nat} : ∀ (ds : List D) (off : Nat), D.rds S w b off ds → ∃ vs : List Value, CellsRd S w vs ds ∧ ∀ i (h : i < vs.length), w.cell? ⟨b, off + i, none⟩ = some vs[i]
  | [], _, _ => ⟨[], trivial, fun i h => absurd h (by simp)⟩
  | d :: ds, off, h => by
    rw [D.rds] at h
    obtain ⟨⟨v, q0, q1⟩, hr⟩ := h
    obtain ⟨vs, h0, h1⟩ := rds_cells ds (off + 1) hr
    refine ⟨v :: vs, ⟨q1, h0⟩, fun i hi => ?_⟩
    cases i with
    | zero => simpa using q0
    | succ i =>
      have := h1 i (by simpa using hi)
      rw [show off + 1 + i = off + (i + 1) by omega] at this
      simpa using this
theorem rd_one {S : Nat → Prop} {w : World} {v : Value} {d : D} (h : D.rd S w v d) : v.oneCell' = true := by
  cases d with
  | str s => rw [D.rd] at h; rw [h.1]; rfl
  | num n => rw [D.rd] at h; rw [h.1]; rfl
  | bit b => rw [D.rd] at h; rw [h]; rfl
  | sl n cs => rw [D.rd] at h; obtain ⟨a, cap, rfl, _⟩ := h; rfl
theorem CellsRd.one {S : Nat → Prop} {w : World} : ∀ {vs : List Value} {ds : List D}, CellsRd S w vs ds → ∀ u ∈ vs, u.oneCell' = true
  | [], [], _, u, hu => by simp at hu
  | [], _ :: _, h, _, _ => h.elim
  | _ :: _, [], h, _, _ => h.elim
  | v :: vs, d :: ds, ⟨h0, h1⟩, u, hu => by
    rcases List.mem_cons.1 hu with rfl | hu
    · exact rd_one h0
    · exact CellsRd.one h1 u hu

/-- a list that grows, of items of m cells of type e: its row lies in a block from B on; its cells read by blocks of S -/
def Rv (S : Nat → Prop) (w : World) (B : Nat) (e : TypeId) (m : Nat) (v : Value) (n : Nat) (ds : List D) : Prop :=
  ∃ vs, w.ownsRow B e m v n vs ∧ CellsRd S w vs ds

theorem Rv.nil (S : Nat → Prop) (w : World) (B : Nat) (e : TypeId) (m : Nat) : Rv S w B e m (.slice none 0 0) 0 [] := ⟨[], World.ownsRow_nil w B e m, trivial⟩
theorem Rv.made {S : Nat → Prop} {w : World} {B n : Nat} (e : TypeId) (m : Nat) (hn : n = w.heap.size) (hB : B ≤ w.heap.size) : Rv S (w.alloc (.cells #[] e)) B e m (.slice (some ⟨n, 0, none⟩) 0 0) 0 [] := by
  subst hn
  exact ⟨[], World.ownsRow_made w #[] 0 hB (by decide) (by simp), trivial⟩
theorem Rv.keep {S : Nat → Prop} {w w' : World} {B : Nat} {e : TypeId} {m : Nat} {v : Value} {n : Nat} {ds : List D} (h : Rv S w B e m v n ds) (hb : Below w.heap.size w w') : Rv S w' B e m v n ds := by
  obtain ⟨vs, h0, h1⟩ := h
  exact ⟨vs, h0.kept ⟨hb.os, hb.tape, hb.output, hb.size, fun k hk _ => hb.block k hk⟩ (row := none) (by cases v.ownBlock <;> simp), h1.keep (Keeps.all hb)⟩
theorem Rv.mono {S S' : Nat → Prop} {w : World} {B : Nat} {e : TypeId} {m : Nat} {v : Value} {n : Nat} {ds : List D} (h : Rv S w B e m v n ds) (hs : ∀ b, S b → S' b) : Rv S' w B e m v n ds := by
  obtain ⟨vs, h0, h1⟩ := h
  exact ⟨vs, h0, h1.mono hs⟩
theorem Rv.form {S : Nat → Prop} {w : World} {B : Nat} {e : TypeId} {m : Nat} {v : Value} {n : Nat} {ds : List D} (h : Rv S w B e m v n ds) : ∃ a cap, v = .slice a n cap ∧ n ≤ big ∧ n ≤ cap := by
  obtain ⟨vs, h0, _⟩ := h
  rcases h0.2 with ⟨rfl, h1⟩ | ⟨g, cap, cur, rfl, hb, hg, hc, hm, _⟩
  · exact ⟨none, 0, by rw [h1], by omega, by omega⟩
  · exact ⟨_, cap, rfl, Nat.le_trans hc hm, hc⟩
theorem Rv.lt {S : Nat → Prop} {w : World} {B : Nat} {e : TypeId} {m : Nat} {v : Value} {n : Nat} {ds : List D} (h : Rv S w B e m v n ds) : ∀ k, v.ownBlock = some k → B ≤ k ∧ k < w.heap.size := by
  obtain ⟨vs, h0, _⟩ := h; exact h0.lt
/-- .. it reads as a slice -/
theorem Rv.rd {S : Nat → Prop} {w : World} {B : Nat} {e : TypeId} {m : Nat} {v : Value} {n : Nat} {ds : List D} (h : Rv S w B e m v n ds) (hm : 0 < m) (hS : ∀ k, v.ownBlock = some k → S k) : D.rd S w v (.sl n ds) := by
  obtain ⟨vs, h0, h1⟩ := h
  have hl := h1.length
  have hn := h0.1
  rw [D.rd]
  rcases h0.2 with ⟨rfl, h4⟩ | ⟨g, cap, cur, rfl, hb, hg, hcp, hmx, hs, htk⟩
  · subst h4
    have : vs = [] := List.length_eq_zero_iff.1 (by simpa using hn)
    subst this
    have : ds = [] := List.length_eq_zero_iff.1 (by simpa using hl.symm)
    subst this
    exact ⟨_, _, rfl, by simp, by simp, by simp, by simp⟩
  · refine ⟨_, _, rfl, Nat.le_trans hcp hmx, hcp, fun h0 hd => ?_, fun _ => ⟨g, 0, rfl, hS g rfl, lt_of_heap hg, h1.rds 0 (Gr.cell h0)⟩⟩
    subst hd
    have hz : n * m = 0 := by rw [← hn, hl]; rfl
    rcases Nat.mul_eq_zero.1 hz with q | q <;> omega

/-- what was in the slice is in it still -/
def Pre (w w' : World) (v : Value) (k : Nat) : Prop := ∀ g i, v.ownBlock = some g → i < k → w'.cell? ⟨g, i, none⟩ = w.cell? ⟨g, i, none⟩
theorem Pre.refl (w : World) (v : Value) (k : Nat) : Pre w w v k := fun _ _ _ _ => rfl
theorem Pre.of_below {w w' : World} {v : Value} {k : Nat} (h : Below w.heap.size w w') (hv : ∀ x, v.ownBlock = some x → x < w.heap.size) : Pre w w' v k := fun g i hg _ => h.cell (p := ⟨g, i, none⟩) (hv g hg)
theorem Rv.old {S : Nat → Prop} {w w' : World} {B : Nat} {e : TypeId} {m : Nat} {v : Value} {n : Nat} {ds : List D} (h : Rv S w B e m v n ds) (hm : 0 < m) (hk : Keeps S w w') (hp : Pre w w' v (n * m)) (hz : w.heap.size ≤ w'.heap.size) : D.rd (fun x => S x ∨ v.ownBlock = some x) w' v (.sl n ds) := by
  obtain ⟨vs, h0, h1⟩ := h
  have hl := h1.length
  have hn := h0.1
  rw [D.rd]
  rcases h0.2 with ⟨rfl, h4⟩ | ⟨g, cap, cur, rfl, hb, hg, hcp, hmx, hs, htk⟩
  · subst h4
    have : vs = [] := List.length_eq_zero_iff.1 (by simpa using hn)
    subst this
    have : ds = [] := List.length_eq_zero_iff.1 (by simpa using hl.symm)
    subst this
    exact ⟨_, _, rfl, by simp, by simp, by simp, by simp⟩
  · refine ⟨_, _, rfl, Nat.le_trans hcp hmx, hcp, fun h0 hd => ?_, fun _ => ⟨g, 0, rfl, .inr rfl, Nat.lt_of_lt_of_le (lt_of_heap hg) hz, ((h1.keep hk).mono fun _ q => .inl q).rds 0 fun i hi => ?_⟩⟩
    · subst hd
      have hz : n * m = 0 := by rw [← hn, hl]; rfl
      rcases Nat.mul_eq_zero.1 hz with q | q <;> omega
    · have := hp g (0 + i) rfl (by rw [← hn]; omega)
      rw [this]
      exact Gr.cell h0 i hi

/-- append(list, src...) at known cells: where the new list lies, and what becomes of the old -/
theorem run_append_val {P : Program} {w : World} {B : Nat} {t e ty : TypeId} {m bytes : Nat} {z : Value} (ht : P.underlying t = some (.slice e)) (hinfo : (P.info? e).map (fun i => (i.zero, i.size, i.bytes)) = some (some z, m, bytes)) (hzs : z.cells.size = m) (hm : 0 < m) (hbytes : bytes ≤ 1000)
    {v : Value} {n : Nat} {vs : List Value} (hrow : w.ownsRow B e m v n vs) {b off k c : Nat} {news : List Value} (hl : news.length = k * m) (hcell : ∀ j u, news[j]? = some u → w.cell? ⟨b, off + j, none⟩ = some u) (h1 : ∀ u ∈ news, u.oneCell' = true) (hn : n + k ≤ 4294967296) (hB : B ≤ w.heap.size) :
    ∃ v' w', (Builtin.append_ #[t, t] ty #[v, .slice (some ⟨b, off, none⟩) k c]).run P w = .ok v' w' ∧ w'.ownsRow B e m v' (n + k) (vs ++ news) ∧ w.grownBy w' v.ownBlock ∧ (v'.ownBlock = v.ownBlock ∨ v'.ownBlock = some w.heap.size) ∧ (v ≠ .slice none 0 0 → v' ≠ .slice none 0 0) ∧ Pre w w' v (n * m) := by
  obtain ⟨i, hi, hz0, hz1, hz2⟩ := info_split hinfo
  have hcell' : ∀ j u, news[j]? = some u → w.cell? ((⟨b, off, none⟩ : Addr).add j) = some u := fun j u hj => by
    have := hcell j u hj
    unfold Addr.add
    split
    · rename_i h0; subst h0; exact this
    · simpa using this
  obtain ⟨v', w', q1, q2, q3, q4, q5⟩ := run_append_own_at (P := P) w B t ty e i z m bytes ht hi hz0 hz1 hz2 hzs hm v n vs hrow ⟨b, off, none⟩ k c news hl hcell' h1 (by unfold maxLen; omega) (Nat.le_trans (Nat.mul_le_mul_left _ hbytes) (by omega)) hB
  refine ⟨v', w', q1, q2, q3, q5, fun hne hn => hne (q4.1 hn).1, ?_⟩
  intro g i' hg hi'
  have hc := hrow.cells hg
  have hvl := hrow.1
  have hold : w.cell? ⟨g, i', none⟩ = some (vs[i']'(by omega)) := by
    have := hc i' (vs[i']'(by omega)) (List.getElem?_eq_getElem (by omega))
    have hadd : (⟨g, 0, none⟩ : Addr).add i' = ⟨g, i', none⟩ := by unfold Addr.add; split <;> simp_all
    rwa [hadd] at this
  rcases hrow.2 with ⟨rfl, _⟩ | ⟨g0, cap, cur, rfl, hbg, hgg, hnc, hcm, hcs, htk⟩
  · cases hg
  · have : g0 = g := Option.some.inj hg
    subst this
    by_cases hroom : n + k ≤ cap
    · have hfit : n * i.size + news.length ≤ cur.size := by rw [hz1, hl, hcs, ← Nat.add_mul]; exact Nat.mul_le_mul_right _ hroom
      have hr := run_append_room (P := P) w t ty e i ht hi g0 n cap cur hgg ⟨b, off, none⟩ k c news (by rw [hz1]; exact hl) hcell' h1 hroom hfit
      rw [q1] at hr
      injection hr with e1 e2
      subst e1
      have hx := q2.cells (g := g0) rfl i' (vs[i']'(by omega)) (by rw [List.getElem?_append_left (by omega), List.getElem?_eq_getElem (by omega)])
      have hadd : (⟨g0, 0, none⟩ : Addr).add i' = ⟨g0, i', none⟩ := by unfold Addr.add; split <;> simp_all
      rw [hadd] at hx
      rw [hold, hx]
    · have hr := run_append_grow (P := P) w t ty e i z ht hi hz0 ⟨g0, 0, none⟩ n cap vs (by rw [hz1]; exact hvl) (hrow.cells (g := g0) rfl) ⟨b, off, none⟩ k c news (by rw [hz1]; exact hl) hcell' (by omega) (by omega) (growslice_fits (by omega) (by rw [hz2]; exact Nat.le_trans (Nat.mul_le_mul_left _ hbytes) (by omega)))
      rw [q1] at hr
      injection hr with e1 e2
      subst e2
      exact World.cell?_of_block (a := ⟨g0, i', none⟩) (heap_alloc_old w.drew _ (lt_of_heap hgg))

/-- .. at items that read -/
theorem run_append_rv {P : Program} {S : Nat → Prop} {w : World} {B : Nat} {t e ty : TypeId} {m bytes : Nat} {z : Value} (ht : P.underlying t = some (.slice e)) (hinfo : (P.info? e).map (fun i => (i.zero, i.size, i.bytes)) = some (some z, m, bytes)) (hzs : z.cells.size = m) (hm : 0 < m) (hbytes : bytes ≤ 1000)
    {v : Value} {n : Nat} {ds : List D} (hrow : Rv S w B e m v n ds) (hv : ∀ k, v.ownBlock = some k → ¬ S k) {b off k c : Nat} {news : List Value} {es : List D} (hl : news.length = k * m) (hcell : ∀ j u, news[j]? = some u → w.cell? ⟨b, off + j, none⟩ = some u) (hR : CellsRd S w news es) (hn : n + k ≤ 4294967296) (hB : B ≤ w.heap.size) :
    ∃ v' w', (Builtin.append_ #[t, t] ty #[v, .slice (some ⟨b, off, none⟩) k c]).run P w = .ok v' w' ∧ Rv S w' B e m v' (n + k) (ds ++ es) ∧ w.grownBy w' v.ownBlock ∧ (v'.ownBlock = v.ownBlock ∨ v'.ownBlock = some w.heap.size) ∧ (v ≠ .slice none 0 0 → v' ≠ .slice none 0 0) ∧ Pre w w' v (n * m) := by
  obtain ⟨vs, h0, h1⟩ := hrow
  obtain ⟨v', w', q1, q2, q3, q4, q5, q6⟩ := run_append_val (ty := ty) (c := c) ht hinfo hzs hm hbytes h0 hl hcell hR.one hn hB
  have hk : Keeps S w w' := ⟨q3.size, fun x hx hl => q3.block x hl fun e => hv x e.symm hx⟩
  exact ⟨v', w', q1, ⟨_, q2, (h1.keep hk).append (hR.keep hk)⟩, q3, q4, q5, q6⟩
theorem wpList_append_rv {P : Program} {ops : Array Oper} {rest : List Oper} {o : Oper} {a : Act} {w : World} {Q : Exit → Act → World → Prop} {S : Nat → Prop} {B : Nat} {t e : TypeId} {m bytes : Nat} {z : Value} (ht : P.underlying t = some (.slice e)) (hinfo : (P.info? e).map (fun i => (i.zero, i.size, i.bytes)) = some (some z, m, bytes)) (hzs : z.cells.size = m) (hm : 0 < m) (hbytes : bytes ≤ 1000)
    (hgd : o.guard = none) (s x : Operand) (ho : o.op = .call { callee := .builtin .append, args := #[s, x], argTypes := #[t, t] })
    {v : Value} {n : Nat} {ds : List D} {b off k c : Nat} {news : List Value} {es : List D} (hs : a.eval s = v) (hx : a.eval x = .slice (some ⟨b, off, none⟩) k c) (hrow : Rv S w B e m v n ds) (hv : ∀ k, v.ownBlock = some k → ¬ S k) (hl : news.length = k * m) (hcell : ∀ j u, news[j]? = some u → w.cell? ⟨b, off + j, none⟩ = some u) (hR : CellsRd S w news es) (hn : n + k ≤ 4294967296) (hB : B ≤ w.heap.size)
    (h : ∀ v' w', Rv S w' B e m v' (n + k) (ds ++ es) → w.grownBy w' v.ownBlock → (v'.ownBlock = v.ownBlock ∨ v'.ownBlock = some w.heap.size) → (v ≠ .slice none 0 0 → v' ≠ .slice none 0 0) → Pre w w' v (n * m) → wpList P ops Q rest (a.put o.dst v') w') : wpList P ops Q (o :: rest) a w := by
  obtain ⟨v', w', hr, h2, h3, h4, h5, h6⟩ := run_append_rv (ty := o.type) (c := c) ht hinfo hzs hm hbytes hrow hv hl hcell hR hn hB
  refine wpList_plain hgd fun _ hK => ?_
  unfold Oper.wp execOp
  simp only [ho, resolve, invoke, builtin, Sem.run_bind, Sem.run_pure, Result.andThen_ok, List.map_toArray, List.map_cons, List.map_nil, hs, hx, hr]
  exact hK _ _ (h v' w' h2 h3 h4 h5 h6)
theorem wpList_append_rv_none {P : Program} {ops : Array Oper} {rest : List Oper} {o : Oper} {a : Act} {w : World} {Q : Exit → Act → World → Prop} {S : Nat → Prop} {B : Nat} {t e : TypeId} {m bytes : Nat} {z : Value} (ht : P.underlying t = some (.slice e)) (hinfo : (P.info? e).map (fun i => (i.zero, i.size, i.bytes)) = some (some z, m, bytes))
    (hgd : o.guard = none) (s x : Operand) (ho : o.op = .call { callee := .builtin .append, args := #[s, x], argTypes := #[t, t] })
    {v : Value} {n : Nat} {ds : List D} (hs : a.eval s = v) (hx : a.eval x = .slice none 0 0) (hrow : Rv S w B e m v n ds) (h : wpList P ops Q rest (a.put o.dst v) w) : wpList P ops Q (o :: rest) a w := by
  obtain ⟨i, hi, hz0, hz1, hz2⟩ := info_split hinfo
  obtain ⟨vs, h0, h1⟩ := hrow
  exact wpList_append_own_none hgd s x t ho B e i m ht hi v n vs hs h0 hx h
end Go.Proofs.YtooocakkjdhfiaaDoor
