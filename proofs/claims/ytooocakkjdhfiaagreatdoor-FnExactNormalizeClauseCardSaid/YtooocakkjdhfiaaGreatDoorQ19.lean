/- Several texts in one file. -/
import Derived.Test.YtooocakkjdhfiaaGreatDoorQ17
import Derived.Test.YtooocakkjdhfiaaGreatDoorQ15
import Derived.BigQuiet
import Derived.Deep.Cut
import Derived.Deep.CutRange
/- The reference makes a clause of literals. -/
namespace Go.Proofs.YtooocakkjdhfiaaGreatDoor
set_option maxRecDepth 100000
open Go.RowKit

theorem whileL_at {α : Type} {p : α → Bool} {l : List α} {k : Nat} (hk : k ≤ l.length) (h : ∀ j (h : j < l.length), j < k → p l[j] = true) (hn : ∀ h : k < l.length, p l[k] = false) : l.takeWhile p = l.take k ∧ l.dropWhile p = l.drop k := by
  induction l generalizing k with
  | nil => simp
  | cons a l ih =>
    cases k with
    | zero =>
      have := hn (by simp)
      simp at this
      simp [this]
    | succ k =>
      have h0 := h 0 (by simp) (by omega)
      simp at h0
      obtain ⟨h1, h2⟩ := ih (k := k) (by simpa using hk) (fun j hj hjk => by have := h (j + 1) (by simpa using hj) (by omega); simpa using this) (fun hl => by have := hn (by simpa using hl); simpa using this)
      simp [h0, h1, h2]
/-- a literal is put at place k -/
theorem insL_at {s : List Lit} {x : Lit} {k : Nat} (hk : k ≤ s.length) (h : ∀ j (h : j < s.length), j < k → Lit.cmp s[j] x < 0) (hn : ∀ h : k < s.length, 0 ≤ Lit.cmp s[k] x ∧ Lit.cmp s[k] x ≠ 0) : insL s x = s.take k ++ x :: s.drop k := by
  obtain ⟨h1, h2⟩ := whileL_at (p := fun y => decide (Lit.cmp y x < 0)) hk (fun j hj hjk => decide_eq_true (h j hj hjk)) (fun hlt => decide_eq_false (by have := (hn hlt).1; omega))
  rw [insL, h1, h2]
  split
  · rename_i e; rw [e]
  · rename_i y r e
    by_cases hlt : k < s.length
    · rw [List.drop_eq_getElem_cons hlt] at e
      injection e with e1 e2
      subst e1
      rw [if_neg (hn hlt).2, List.drop_eq_getElem_cons hlt, e2]
    · rw [List.drop_of_length_le (by omega)] at e; cases e
theorem insL_in {s : List Lit} {x : Lit} {k : Nat} (hk : k < s.length) (h : ∀ j (h : j < s.length), j < k → Lit.cmp s[j] x < 0) (hn : Lit.cmp s[k] x = 0) : insL s x = s := by
  obtain ⟨h1, h2⟩ := whileL_at (p := fun y => decide (Lit.cmp y x < 0)) (Nat.le_of_lt hk) (fun j hj hjk => decide_eq_true (h j hj hjk)) (fun _ => decide_eq_false (by omega))
  rw [insL, h2, List.drop_eq_getElem_cons hk]
  simp only
  rw [if_pos hn]
theorem Lit.piece {S : Nat → Prop} {w : World} {b off n cap : Nat} {xs : List Lit} (h : D.rd S w (.slice (some ⟨b, off, none⟩) n cap) (Lit.sd xs)) (i k : Nat) (hk : i + k ≤ xs.length) :
    ∃ vs : List Value, vs.length = k * 3 ∧ CellsRd S w vs (Lit.css ((xs.drop i).take k)) ∧ ∀ j u, vs[j]? = some u → w.cell? ⟨b, off + i * 3 + j, none⟩ = some u := by
  have hl : (Lit.css ((xs.drop i).take k)).length = k * 3 := by rw [Lit.css_length, List.length_take, List.length_drop, Nat.min_eq_left (by omega)]
  by_cases hx : xs = []
  · subst hx
    have : k = 0 := by simp at hk; omega
    subst this
    exact ⟨[], by simp, by simp [Lit.css, CellsRd], fun j u hu => by simp at hu⟩
  · obtain ⟨b', off', e, -, -, hrr⟩ := Lit.sd_get h hx
    injection e with e; injection e with e1 e2; subst e1 e2
    have key : ∀ k, i + k ≤ xs.length → ∃ vs : List Value, CellsRd S w vs (Lit.css ((xs.drop i).take k)) ∧ ∀ j u, vs[j]? = some u → w.cell? ⟨b, off + i * 3 + j, none⟩ = some u := by
      intro k
      induction k with
      | zero => intro _; exact ⟨[], by simp [Lit.css, CellsRd], fun j u hu => by simp at hu⟩
      | succ k ih =>
        intro hk
        obtain ⟨vs, h0, h1⟩ := ih (by omega)
        obtain ⟨c0, c1, c2, q0, q1, q2, qx⟩ := hrr (i + k) (by omega)
        have hlk := h0.length
        rw [Lit.css_length, List.length_take, List.length_drop, Nat.min_eq_left (by omega)] at hlk
        refine ⟨vs ++ [c0, c1, c2], ?_, fun j u hu => ?_⟩
        · rw [Lit.css_take_succ (xs.drop i) k (by rw [List.length_drop]; omega), ← Lit.cs_eq]
          refine h0.append ?_
          rw [List.getElem_drop, Lit.cs_eq]
          exact ⟨qx.1, qx.2.1, qx.2.2, trivial⟩
        · by_cases hj : j < vs.length
          · rw [List.getElem?_append_left hj] at hu; exact h1 j u hu
          · rw [List.getElem?_append_right (by omega)] at hu
            obtain ⟨d, hd⟩ : ∃ d, j = k * 3 + d := ⟨j - k * 3, by omega⟩
            subst hd
            rw [hlk, Nat.add_sub_cancel_left] at hu
            match d, hu with
            | 0, hu => simp at hu; subst hu; rw [← q0]; congr 2; omega
            | 1, hu => simp at hu; subst hu; rw [← q1]; congr 2; omega
            | 2, hu => simp at hu; subst hu; rw [← q2]; congr 2; omega
            | d + 3, hu => simp at hu
    obtain ⟨vs, h0, h1⟩ := key k hk
    exact ⟨vs, by rw [h0.length, hl], h0, h1⟩
/-- append(list, src...) at known cells, in a region that draws its order -/
theorem step_append_rv {P : Program} {ops : Array Oper} {o : Oper} {a : Act} {w : World} {K : Act → World → Prop} {Q : Exit → Act → World → Prop} {E : Prop} {S : Nat → Prop} {B : Nat} {t e : TypeId} {m bytes : Nat} {z : Value} (ht : P.underlying t = some (.slice e)) (hinfo : (P.info? e).map (fun i => (i.zero, i.size, i.bytes)) = some (some z, m, bytes)) (hzs : z.cells.size = m) (hm : 0 < m) (hbytes : bytes ≤ 1000)
    (hgd : o.guard = none) (s x : Operand) (ho : o.op = .call { callee := .builtin .append, args := #[s, x], argTypes := #[t, t] })
    {v : Value} {n : Nat} {ds : List D} {b off k c : Nat} {news : List Value} {es : List D} (hs : a.eval s = v) (hx : a.eval x = .slice (some ⟨b, off, none⟩) k c) (hrow : Rv S w B e m v n ds) (hv : ∀ k, v.ownBlock = some k → ¬ S k) (hl : news.length = k * m) (hcell : ∀ j u, news[j]? = some u → w.cell? ⟨b, off + j, none⟩ = some u) (hR : CellsRd S w news es) (hn : n + k ≤ 4294967296) (hB : B ≤ w.heap.size)
    (h : ∀ v' w', Rv S w' B e m v' (n + k) (ds ++ es) → w.grownBy w' v.ownBlock → (v'.ownBlock = v.ownBlock ∨ v'.ownBlock = some w.heap.size) → K (a.put o.dst v') w') :
    if Region.wanted o (yielded ops a.tmps) = true then Oper.wp P o a w K Q else E := by
  have hw : Region.wanted o (yielded ops a.tmps) = true := by simp [Region.wanted, hgd]
  rw [if_pos hw]
  obtain ⟨v', w', hr, h2, h3, h4, -, -⟩ := run_append_rv (ty := o.type) (c := c) ht hinfo hzs hm hbytes hrow hv hl hcell hR hn hB
  unfold Oper.wp execOp
  simp only [ho, resolve, invoke, builtin, Sem.run_bind, Sem.run_pure, Result.andThen_ok, List.map_toArray, List.map_cons, List.map_nil, hs, hx, hr]
  exact h v' w' h2 h3 h4

/-- what l7Make comes to -/
def RdCl (ts : List Lit) (w : World) (e : Ending) (w' : World) : Prop := ∃ v', e = .returned (.agg #[v']) ∧ D.rd (fun x => w.heap.size ≤ x) w' v' (Lit.sd (makeL ts)) ∧ Below w.heap.size w w'
theorem D.rd_bothL {S : Nat → Prop} {w : World} : ∀ (d : D) (v : Value), D.rd S w v d → D.rd (fun x => S x ∧ x < w.heap.size) w v d := by
  refine D.ind (fun s v h => by rw [D.rd] at h ⊢; exact h) (fun n v h => by rw [D.rd] at h ⊢; exact h) (fun b v h => by rw [D.rd] at h ⊢; exact h) (fun n cs ih v h => ?_)
  rw [D.rd] at h ⊢
  obtain ⟨a, cap, h0, h1, h2, h3, h4⟩ := h
  refine ⟨a, cap, h0, h1, h2, h3, fun hne => ?_⟩
  obtain ⟨b, off, q0, q1, q2, q3⟩ := h4 hne
  refine ⟨b, off, q0, ⟨q1, q2⟩, q2, (D.rds_iff _ _).2 fun i hi => ?_⟩
  obtain ⟨v, r0, r1⟩ := (D.rds_iff _ _).1 q3 i hi
  exact ⟨v, r0, ih _ (List.getElem_mem hi) _ r1⟩
theorem rd_nilL {S : Nat → Prop} {w : World} {a : Option Addr} {c : Nat} : D.rd S w (.slice a 0 c) (Lit.sd []) := by
  rw [Lit.sd_css, D.rd]
  exact ⟨_, _, rfl, by simp, by simp, by simp, by simp [Lit.css]⟩
theorem drewN_belowL {w : World} {B n : Nat} : Below B w (w.drewN n) := ⟨rfl, rfl, rfl, Nat.le_refl _, fun _ _ => rfl⟩
theorem Lit.at_allA {S : Nat → Prop} {w : World} {c0 c1 c2 : Value} {x : Lit} (h : Lit.at S w c0 c1 c2 x) : Lit.at (fun _ => True) w c0 c1 c2 x := ⟨D.rd_all h.1, D.rd_all h.2.1, D.rd_all h.2.2⟩
theorem itemO2 (w : World) (A0 : Obj) (cs : Array Value) (T : TypeId) (j : Nat) : (((w.alloc A0).alloc (.cells cs T)).drew).cell? ⟨w.heap.size + 1, j, none⟩ = cs[j]? := by
  have := box1 (w.alloc A0) cs T j
  rw [World.size_alloc] at this
  exact this
theorem itemO3 (w : World) (A0 : Obj) (cs : Array Value) (T : TypeId) (j : Nat) : (((w.alloc (.cells cs T)).alloc A0).drew).cell? ⟨w.heap.size, j, none⟩ = cs[j]? :=
  (((Below.refl _ _).alloc (Nat.le_refl _) A0).cell (p := ⟨w.heap.size, j, none⟩) (by rw [World.size_alloc]; exact Nat.lt_succ_self _)).trans (box1 w cs T j)
/-- a literal's box that is not filled yet -/
def LBox (w : World) (b : Nat) : Prop := b < w.heap.size ∧ (w.cell? ⟨b, 0, none⟩ = some (.bool false) ∧ w.cell? ⟨b, 1, none⟩ = some (.string ⟨#[]⟩) ∧ w.cell? ⟨b, 2, none⟩ = some (.slice none 0 0)) ∧ ∀ p, w.frozen? ⟨b, p, none⟩ = false
theorem LBox.keep {w w' : World} {b : Nat} (h : LBox w b) (hb : Below w.heap.size w w') : LBox w' b :=
  ⟨Nat.lt_of_lt_of_le h.1 hb.size, ⟨(hb.cell (p := ⟨b, 0, none⟩) h.1).trans h.2.1.1, (hb.cell (p := ⟨b, 1, none⟩) h.1).trans h.2.1.2.1, (hb.cell (p := ⟨b, 2, none⟩) h.1).trans h.2.1.2.2⟩, fun p => (hb.frozen (p := ⟨b, p, none⟩) h.1).trans (h.2.2 p)⟩
theorem LBox.new (w : World) : LBox (w.alloc (.cells #[.bool false, .string ⟨#[]⟩, .slice none 0 0] 52)) w.heap.size :=
  ⟨by rw [World.size_alloc]; exact Nat.lt_succ_self _, ⟨by rw [box1]; rfl, by rw [box1]; rfl, by rw [box1]; rfl⟩, fun p => World.frozen?_alloc_at _ _ _ p rfl⟩
/-- what the region that lays a literal comes to -/
def LEnd (W : World) (x : Lit) (v6 : Value) (wc : World) : Prop := ∃ (tb : Nat) (a1 : Option Addr) (c1 : Nat) (G : List Nat), v6 = .pointer (some ⟨tb, 0, none⟩) ∧ Hid (Box wc tb [.bool x.pos, .string x.atom.name, .slice a1 x.atom.args.length c1]) ∧ Hid (D.own wc (.slice a1 x.atom.args.length c1) (Tm.sd x.atom.args) G) ∧ Hid (∀ y ∈ G, W.heap.size ≤ y) ∧ W.heap.size ≤ tb ∧ Hid (tb ∉ G) ∧ Below W.heap.size W wc
theorem LEnd.filled {W w : World} {b : Nat} {x : Lit} {a1 : Option Addr} {c1 : Nat} {G : List Nat} (zb : LBox w b) (hB : Below W.heap.size W w) (hb : W.heap.size ≤ b) (o : D.own w (.slice a1 x.atom.args.length c1) (Tm.sd x.atom.args) G) (hG : ∀ y ∈ G, W.heap.size ≤ y) (hn : b ∉ G) :
    LEnd W x (.pointer (some ⟨b, 0, none⟩)) (((w.setCell ⟨b, 0, none⟩ (.bool x.pos)).setCell ⟨b, 1, none⟩ (.string x.atom.name)).setCell ⟨b, 2, none⟩ (.slice a1 x.atom.args.length c1)) := by
  have h01 : ∀ {p q : Nat}, p ≠ q → (⟨b, p, none⟩ : Addr) ≠ ⟨b, q, none⟩ := fun h e => by injection e with _ e; exact h e
  refine ⟨b, a1, c1, G, rfl, hid ⟨by rw [World.size_setCell, World.size_setCell, World.size_setCell]; exact zb.1, fun i hi => ?_⟩, hid ?_, hG, hb, hn, ?_⟩
  · match i, hi with
    | 0, _ =>
      rw [World.cell?_setCell_other _ _ _ _ (h01 (by decide)), World.cell?_setCell_other _ _ _ _ (h01 (by decide))]
      exact World.cell?_setCell_same (u := .bool false) _ _ _ zb.2.1.1
    | 1, _ =>
      rw [World.cell?_setCell_other _ _ _ _ (h01 (by decide))]
      refine World.cell?_setCell_same (u := .string ⟨#[]⟩) _ _ _ ?_
      rw [World.cell?_setCell_other _ _ _ _ (h01 (by decide))]
      exact zb.2.1.2.1
    | 2, _ =>
      refine World.cell?_setCell_same (u := .slice none 0 0) _ _ _ ?_
      rw [World.cell?_setCell_other _ _ _ _ (h01 (by decide)), World.cell?_setCell_other _ _ _ _ (h01 (by decide))]
      exact zb.2.1.2.2
  · exact D.own_keep _ _ _ ((((Keeps.refl (· ∈ G) w).setCell (fun q _ => hn q) _).setCell (fun q _ => hn q) _).setCell (fun q _ => hn q) _) o
  · exact ((hB.setCell (p := ⟨b, 0, none⟩) hb _).setCell (p := ⟨b, 1, none⟩) hb _).setCell (p := ⟨b, 2, none⟩) hb _
theorem LEnd.last {W w : World} {x : Lit} {a1 : Option Addr} {c1 : Nat} {G : List Nat} (hB : Below W.heap.size W w) (o : D.own w (.slice a1 x.atom.args.length c1) (Tm.sd x.atom.args) G) (hG : ∀ y ∈ G, W.heap.size ≤ y) :
    LEnd W x (.pointer (some ⟨w.heap.size, 0, none⟩)) (w.alloc (.cells #[.bool x.pos, .string x.atom.name, .slice a1 x.atom.args.length c1] 52)) :=
  ⟨w.heap.size, a1, c1, G, rfl, hid (Box.new w _ _), hid (D.own_keep _ _ _ ((Keeps.refl _ _).alloc _) o), hG, hB.size, hid (fun q => absurd (D.own_lt _ _ _ o _ q) (Nat.lt_irrefl _)), hB.alloc hB.size _⟩
set_option maxHeartbeats 4000000 in
theorem l7Make_any {ts : List Lit} {S : Nat → Prop} {v : Value} {w : World} (hr : D.rd S w v (Lit.sd ts)) (hbk : ts.length + Lit.bulks ts ≤ 1048576) :
    Calls Tryz.prog 42 #[v] w (RdCl ts w) := by
  obtain ⟨ta, tc, rfl, hlen, htc⟩ := Lit.sd_form hr
  unfold big at hlen
  have HRD := hid hr
  clear hr
  have hW : Below w.heap.size w ((w.alloc (.cells #[.slice none 0 0] 28)).alloc (.cells #[] 52)) := ((Below.refl _ _).alloc (Nat.le_refl _) _).alloc (by simp) _
  have rb : Box ((w.alloc (.cells #[.slice none 0 0] 28)).alloc (.cells #[] 52)) w.heap.size [.slice none 0 0] := (Box.new w [Value.slice none 0 0] 28).alloc _
  have rf : ((w.alloc (.cells #[.slice none 0 0] 28)).alloc (.cells #[] 52)).frozen? ⟨w.heap.size, 0, none⟩ = false := (World.frozen?_alloc_past _ _ 0 (by simp)).trans (World.frozen?_alloc_at _ _ _ 0 (by simp))
  have HZ : Hid (((w.alloc (.cells #[.slice none 0 0] 28)).alloc (.cells #[] 52)).heap.size = w.heap.size + 1 + 1) := by simp [Hid]
  go_enter Tryz.func42, Tryz.ntmps42
  go_wp2_with fail
  generalize ((w.alloc (.cells #[.slice none 0 0] 28)).alloc (.cells #[] 52)) = w0 at *
  have hz0 := HZ.out
  go_loopw [3, 4] (fun x iv wr => ∃ (i b off c : Nat) (ol : List Lit), i ≤ ts.length ∧ x = .slice (some ⟨b, off, none⟩) ol.length c ∧ iv = .int .i64 i ∧ Hid (ol = makeL (ts.take i)) ∧ Hid (D.rd (fun y => w.heap.size + 1 ≤ y) wr (.slice (some ⟨b, off, none⟩) ol.length c) (Lit.sd ol)) ∧ b < wr.heap.size ∧ w.heap.size + 1 + 1 ≤ wr.heap.size ∧ Hid (Below (w.heap.size + 1) w0 wr)) (fun _ iv _ => ts.length - (intOf iv).toNat)
  case atStart => exact ⟨0, w.heap.size + 1, 0, 0, [], Nat.zero_le _, rfl, rfl, rfl, rd_nilL, by omega, by omega, Below.refl _ _⟩
  case round =>
    obtain ⟨i, b, off, c, ol, hi, rfl, rfl, HOL, HRO, hbr, hz, HB⟩ := hrel
    have HBW := hid (hW.trans (HB.out.mono (by omega)))
    by_cases hlt : i < ts.length
    · have hne : ts ≠ [] := by intro e; subst e; simp at hlt
      obtain ⟨bt, ot, rfl, hSt, hbt, hrr⟩ := Lit.sd_get HRD.out hne
      obtain ⟨c0, c1, c2, q0, q1, q2, qx⟩ := hrr i hlt
      have hnl := Lit.name_leA qx
      have hbm : ts[i].atom.bulk ≤ 1048576 := by have := Lit.bulk_memA (List.getElem_mem hlt); omega
      have HX := hid (Lit.at_allA (Lit.at_keep (Keeps.all HBW.out) qx))
      obtain ⟨rfl, rfl, xa, xc, rfl⟩ := Lit.at_form qx
      have p0 := (HBW.out.cell (p := ⟨bt, ot + i * 3, none⟩) hbt).trans q0
      have p1 := (HBW.out.cell (p := ⟨bt, ot + i * 3 + 1, none⟩) hbt).trans q1
      have p2 : wr.cell? ⟨bt, ot + i * 3 + 1 + 1, none⟩ = some (.slice xa ts[i].atom.args.length xc) := (HBW.out.cell (p := ⟨bt, ot + i * 3 + 2, none⟩) hbt).trans q2
      have hbtr := Nat.lt_of_lt_of_le hbt HBW.out.size
      have hiI : (0 : Int) ≤ (i : Int) := by omega
      have hocc : ol.length ≤ c := by obtain ⟨_, _, e, _, h⟩ := Lit.sd_form HRO.out; injection e with _ _ e; omega
      have holl : ol.length ≤ 1048576 := by have := makeL_bulk (ts.take i); rw [← HOL.out] at this; rw [List.length_take] at this; omega
      have HIN : Hid (makeL (ts.take (i + 1)) = insL ol ts[i]) := by rw [Hid, makeL_snoc ts i hlt, ← HOL.out]
      clear hrr qx q0 q1 q2
      go_wp2_with fail
      go_loopw [5] (fun kv wk => ∃ k : Nat, k ≤ ol.length ∧ kv = .int .i64 k ∧ Hid (∀ j (h : j < ol.length), j < k → Lit.cmp ol[j] ts[i] < 0) ∧ Hid (Below wr.heap.size wr wk)) (fun kv _ => ol.length - (intOf kv).toNat)
      case atStart => exact ⟨0, Nat.zero_le _, rfl, fun j h h' => absurd h' (by omega), Below.refl _ _⟩
      case round =>
        obtain ⟨k, hk, rfl, HK, HBK⟩ := hrel
        rename World => wk
        have hkI : (0 : Int) ≤ (k : Int) := by omega
        have hzk := HBK.out.size
        have s0 := (HBK.out.cell (p := ⟨bt, ot + i * 3, none⟩) hbtr).trans p0
        have s1 := (HBK.out.cell (p := ⟨bt, ot + i * 3 + 1, none⟩) hbtr).trans p1
        have s2 := (HBK.out.cell (p := ⟨bt, ot + i * 3 + 1 + 1, none⟩) hbtr).trans p2
        have hbtk := Nat.lt_of_lt_of_le hbtr hzk
        have hbk' := Nat.lt_of_lt_of_le hbr hzk
        have HXX := hid (Lit.at_keep (Keeps.all HBK.out) HX.out)
        by_cases hkl : k < ol.length
        · have hnel : ol ≠ [] := by intro e; subst e; simp at hkl
          obtain ⟨b', off', e, hSb, hbl', hro⟩ := Lit.sd_get HRO.out hnel
          injection e with e; injection e with e1 e2
          subst e1 e2
          obtain ⟨d0, d1, d2, r0, r1, r2, rx⟩ := hro k hkl
          have HYY := hid (Lit.at_allA (Lit.at_keep (Keeps.all HBK.out) rx))
          obtain ⟨rfl, rfl, ya, yc, rfl⟩ := Lit.at_form rx
          replace r0 := (HBK.out.cell (p := ⟨b, off + k * 3, none⟩) hbr).trans r0
          replace r1 := (HBK.out.cell (p := ⟨b, off + k * 3 + 1, none⟩) hbr).trans r1
          replace r2 : wk.cell? ⟨b, off + k * 3 + 1 + 1, none⟩ = some (.slice ya ol[k].atom.args.length yc) := (HBK.out.cell (p := ⟨b, off + k * 3 + 2, none⟩) hbr).trans r2
          clear hro rx
          by_cases hcl : Lit.cmp ol[k] ts[i] < 0
          · have HKN : Hid (∀ j (h : j < ol.length), j < k + 1 → Lit.cmp ol[j] ts[i] < 0) := fun j h h' => by
              by_cases hjk : j < k
              · exact HK.out j h hjk
              · obtain rfl : j = k := by omega
                exact hcl
            have hdl : decide (Lit.cmp ol[k] ts[i] < 0) = true := decide_eq_true hcl
            go_wp2_with fail
            refine wp_region_B [fun v _ => v = .int .i64 k, fun v _ => v = .slice (some ⟨b, off, none⟩) ol.length c, fun v _ => v = .int .i64 ol.length, fun v _ => v = .bool true, fun v _ => v = .bool true, fun v _ => v = .slice (some ⟨b, off, none⟩) ol.length c, fun v _ => v = .int .i64 k, fun v _ => v = .pointer (some ⟨b, off + k * 3, none⟩), fun v _ => v = .agg #[.bool ol[k].pos, .string ol[k].atom.name, .slice ya ol[k].atom.args.length yc], fun v _ => v = .slice (some ⟨bt, ot, none⟩) ts.length tc, fun v _ => v = .int .i64 i, fun v _ => v = .pointer (some ⟨bt, ot + i * 3, none⟩), fun v _ => v = .agg #[.bool ts[i].pos, .string ts[i].atom.name, .slice xa ts[i].atom.args.length xc], fun v _ => v = .int .i64 (Lit.cmp ol[k] ts[i]), fun v _ => v = .bool true, fun v _ => v = .bool true] _ (fun V => by simp [putAll, Act.put]; rfl) (by kernel_rfl) (by decide) (by simp) (by kernel_rfl) ?_ ?_ ?_
            · intro F hF
              simp only [List.mem_cons, List.not_mem_nil, or_false] at hF
              rcases hF with rfl | rfl | rfl | rfl | rfl | rfl | rfl | rfl | rfl | rfl | rfl | rfl | rfl | rfl | rfl | rfl
              · exact stable_eq
              · exact stable_eq
              · exact stable_eq
              · exact stable_eq
              · exact stable_eq
              · exact stable_eq
              · exact stable_eq
              · exact stable_eq
              · exact stable_eq
              · exact stable_eq
              · exact stable_eq
              · exact stable_eq
              · exact stable_eq
              · exact stable_eq
              · exact stable_eq
              · exact stable_eq
            · refine ⟨?_, ?_, ?_, ?_, ?_, ?_, ?_, ?_, ?_, ?_, ?_, ?_, ?_, ?_, ?_, ?_, trivial⟩
              · intro V w1 hbR _
                unfold Does
                go_simp
                exact ⟨Below.refl _ _, rfl⟩
              · intro V w1 hbR _
                unfold Does
                go_simp
                exact ⟨Below.refl _ _, rfl⟩
              · intro V w1 hbR ⟨f1, _⟩
                replace f1 : V 1 = .slice (some ⟨b, off, none⟩) ol.length c := f1
                obtain ⟨hc, hf⟩ := bcell hbR
                try simp only [World.size_alloc, World.size_setCell] at hc hf
                unfold Does
                go_simp
                exact ⟨Below.refl _ _, rfl⟩
              · intro V w1 hbR ⟨f0, f2, _⟩
                replace f0 : V 0 = .int .i64 k := f0
                replace f2 : V 2 = .int .i64 ol.length := f2
                unfold Does
                go_simp
                exact ⟨Below.refl _ _, rfl⟩
              · intro V w1 hbR ⟨f3, _⟩
                replace f3 : V 3 = .bool true := f3
                unfold Does
                go_simp
                exact ⟨Below.refl _ _, rfl⟩
              · intro V w1 hbR ⟨f4, _⟩
                replace f4 : V 4 = .bool true := f4
                refine .inl ⟨_, f4, fun hg => ?_, fun hg => ?_⟩
                · unfold Does
                  go_simp
                  exact ⟨Below.refl _ _, rfl⟩
                · exact absurd rfl hg
              · intro V w1 hbR ⟨f4, _⟩
                replace f4 : V 4 = .bool true := f4
                refine .inl ⟨_, f4, fun hg => ?_, fun hg => ?_⟩
                · unfold Does
                  go_simp
                  exact ⟨Below.refl _ _, rfl⟩
                · exact absurd rfl hg
              · intro V w1 hbR ⟨f5, f6, f4, _⟩
                replace f4 : V 4 = .bool true := f4
                replace f5 : V 5 = .slice (some ⟨b, off, none⟩) ol.length c := f5
                replace f6 : V 6 = .int .i64 k := f6
                refine .inl ⟨_, f4, fun hg => ?_, fun hg => ?_⟩
                · unfold Does
                  go_simp
                  exact ⟨Below.refl _ _, rfl⟩
                · exact absurd rfl hg
              · intro V w1 hbR ⟨f7, f4, _⟩
                replace f4 : V 4 = .bool true := f4
                replace f7 : V 7 = .pointer (some ⟨b, off + k * 3, none⟩) := f7
                refine .inl ⟨_, f4, fun hg => ?_, fun hg => ?_⟩
                · obtain ⟨hc, hf⟩ := bcell hbR
                  try simp only [World.size_alloc, World.size_setCell] at hc hf
                  unfold Does
                  go_simp
                  exact ⟨Below.refl _ _, rfl⟩
                · exact absurd rfl hg
              · intro V w1 hbR ⟨f4, _⟩
                replace f4 : V 4 = .bool true := f4
                refine .inl ⟨_, f4, fun hg => ?_, fun hg => ?_⟩
                · unfold Does
                  go_simp
                  exact ⟨Below.refl _ _, rfl⟩
                · exact absurd rfl hg
              · intro V w1 hbR ⟨f4, _⟩
                replace f4 : V 4 = .bool true := f4
                refine .inl ⟨_, f4, fun hg => ?_, fun hg => ?_⟩
                · unfold Does
                  go_simp
                  exact ⟨Below.refl _ _, rfl⟩
                · exact absurd rfl hg
              · intro V w1 hbR ⟨f9, f10, f4, _⟩
                replace f4 : V 4 = .bool true := f4
                replace f9 : V 9 = .slice (some ⟨bt, ot, none⟩) ts.length tc := f9
                replace f10 : V 10 = .int .i64 i := f10
                refine .inl ⟨_, f4, fun hg => ?_, fun hg => ?_⟩
                · unfold Does
                  go_simp
                  exact ⟨Below.refl _ _, rfl⟩
                · exact absurd rfl hg
              · intro V w1 hbR ⟨f11, f4, _⟩
                replace f4 : V 4 = .bool true := f4
                replace f11 : V 11 = .pointer (some ⟨bt, ot + i * 3, none⟩) := f11
                refine .inl ⟨_, f4, fun hg => ?_, fun hg => ?_⟩
                · obtain ⟨hc, hf⟩ := bcell hbR
                  try simp only [World.size_alloc, World.size_setCell] at hc hf
                  unfold Does
                  go_simp
                  exact ⟨Below.refl _ _, rfl⟩
                · exact absurd rfl hg
              · intro V w1 hbR ⟨f8, f12, f4, _, _⟩
                replace f4 : V 4 = .bool true := f4
                replace f8 : V 8 = .agg #[.bool ol[k].pos, .string ol[k].atom.name, .slice ya ol[k].atom.args.length yc] := f8
                replace f12 : V 12 = .agg #[.bool ts[i].pos, .string ts[i].atom.name, .slice xa ts[i].atom.args.length xc] := f12
                refine .inl ⟨_, f4, fun hg => ?_, fun hg => ?_⟩
                · obtain ⟨hc, hf⟩ := bcell hbR
                  try simp only [World.size_alloc, World.size_setCell] at hc hf
                  unfold Does
                  go_simp
                  exact l7Literals_any (S := fun _ => True) (Lit.at_keep (Keeps.all hbR) HYY.out) (Lit.at_keep (Keeps.all hbR) HXX.out)
                · exact absurd rfl hg
              · intro V w1 hbR ⟨f13, f4, _⟩
                replace f4 : V 4 = .bool true := f4
                replace f13 : V 13 = .int .i64 (Lit.cmp ol[k] ts[i]) := f13
                refine .inl ⟨_, f4, fun hg => ?_, fun hg => ?_⟩
                · unfold Does
                  go_simp
                  exact ⟨Below.refl _ _, rfl⟩
                · exact absurd rfl hg
              · intro V w1 hbR ⟨f4, f14, _⟩
                replace f4 : V 4 = .bool true := f4
                replace f14 : V 14 = .bool true := f14
                unfold Does
                go_simp
                exact ⟨Below.refl _ _, rfl⟩
            intro V w3 hbR hfR
            obtain ⟨f0, f1, f2, f3, f4, f5, f6, f7, f8, f9, f10, f11, f12, f13, f14, f15, _⟩ := hfR
            replace f0 : V 0 = .int .i64 k := f0
            replace f1 : V 1 = .slice (some ⟨b, off, none⟩) ol.length c := f1
            replace f2 : V 2 = .int .i64 ol.length := f2
            replace f3 : V 3 = .bool true := f3
            replace f4 : V 4 = .bool true := f4
            replace f5 : V 5 = .slice (some ⟨b, off, none⟩) ol.length c := f5
            replace f6 : V 6 = .int .i64 k := f6
            replace f7 : V 7 = .pointer (some ⟨b, off + k * 3, none⟩) := f7
            replace f8 : V 8 = .agg #[.bool ol[k].pos, .string ol[k].atom.name, .slice ya ol[k].atom.args.length yc] := f8
            replace f9 : V 9 = .slice (some ⟨bt, ot, none⟩) ts.length tc := f9
            replace f10 : V 10 = .int .i64 i := f10
            replace f11 : V 11 = .pointer (some ⟨bt, ot + i * 3, none⟩) := f11
            replace f12 : V 12 = .agg #[.bool ts[i].pos, .string ts[i].atom.name, .slice xa ts[i].atom.args.length xc] := f12
            replace f13 : V 13 = .int .i64 (Lit.cmp ol[k] ts[i]) := f13
            replace f14 : V 14 = .bool true := f14
            replace f15 : V 15 = .bool true := f15
            simp only [f0, f1, f2, f3, f4, f5, f6, f7, f8, f9, f10, f11, f12, f13, f14, f15]
            clear f0 f1 f2 f3 f4 f5 f6 f7 f8 f9 f10 f11 f12 f13 f14 f15
            clear r0 r1 r2 s0 s1 s2
            have HBN := hid (HBK.out.trans (hbR.mono HBK.out.size))
            go_wp2_with fail
            go_roundw
            case rel => exact ⟨k + 1, by omega, by go_num, HKN, HBN⟩
            case measure => simp [intOf]; omega
          · have hdl : decide (Lit.cmp ol[k] ts[i] < 0) = false := decide_eq_false hcl
            have HCL := hid hcl
            clear hcl
            go_wp2_with fail
            refine wp_region_B [fun v _ => v = .int .i64 k, fun v _ => v = .slice (some ⟨b, off, none⟩) ol.length c, fun v _ => v = .int .i64 ol.length, fun v _ => v = .bool true, fun v _ => v = .bool true, fun v _ => v = .slice (some ⟨b, off, none⟩) ol.length c, fun v _ => v = .int .i64 k, fun v _ => v = .pointer (some ⟨b, off + k * 3, none⟩), fun v _ => v = .agg #[.bool ol[k].pos, .string ol[k].atom.name, .slice ya ol[k].atom.args.length yc], fun v _ => v = .slice (some ⟨bt, ot, none⟩) ts.length tc, fun v _ => v = .int .i64 i, fun v _ => v = .pointer (some ⟨bt, ot + i * 3, none⟩), fun v _ => v = .agg #[.bool ts[i].pos, .string ts[i].atom.name, .slice xa ts[i].atom.args.length xc], fun v _ => v = .int .i64 (Lit.cmp ol[k] ts[i]), fun v _ => v = .bool false, fun v _ => v = .bool false] _ (fun V => by simp [putAll, Act.put]; rfl) (by kernel_rfl) (by decide) (by simp) (by kernel_rfl) ?_ ?_ ?_
            · intro F hF
              simp only [List.mem_cons, List.not_mem_nil, or_false] at hF
              rcases hF with rfl | rfl | rfl | rfl | rfl | rfl | rfl | rfl | rfl | rfl | rfl | rfl | rfl | rfl | rfl | rfl
              · exact stable_eq
              · exact stable_eq
              · exact stable_eq
              · exact stable_eq
              · exact stable_eq
              · exact stable_eq
              · exact stable_eq
              · exact stable_eq
              · exact stable_eq
              · exact stable_eq
              · exact stable_eq
              · exact stable_eq
              · exact stable_eq
              · exact stable_eq
              · exact stable_eq
              · exact stable_eq
            · refine ⟨?_, ?_, ?_, ?_, ?_, ?_, ?_, ?_, ?_, ?_, ?_, ?_, ?_, ?_, ?_, ?_, trivial⟩
              · intro V w1 hbR _
                unfold Does
                go_simp
                exact ⟨Below.refl _ _, rfl⟩
              · intro V w1 hbR _
                unfold Does
                go_simp
                exact ⟨Below.refl _ _, rfl⟩
              · intro V w1 hbR ⟨f1, _⟩
                replace f1 : V 1 = .slice (some ⟨b, off, none⟩) ol.length c := f1
                obtain ⟨hc, hf⟩ := bcell hbR
                try simp only [World.size_alloc, World.size_setCell] at hc hf
                unfold Does
                go_simp
                exact ⟨Below.refl _ _, rfl⟩
              · intro V w1 hbR ⟨f0, f2, _⟩
                replace f0 : V 0 = .int .i64 k := f0
                replace f2 : V 2 = .int .i64 ol.length := f2
                unfold Does
                go_simp
                exact ⟨Below.refl _ _, rfl⟩
              · intro V w1 hbR ⟨f3, _⟩
                replace f3 : V 3 = .bool true := f3
                unfold Does
                go_simp
                exact ⟨Below.refl _ _, rfl⟩
              · intro V w1 hbR ⟨f4, _⟩
                replace f4 : V 4 = .bool true := f4
                refine .inl ⟨_, f4, fun hg => ?_, fun hg => ?_⟩
                · unfold Does
                  go_simp
                  exact ⟨Below.refl _ _, rfl⟩
                · exact absurd rfl hg
              · intro V w1 hbR ⟨f4, _⟩
                replace f4 : V 4 = .bool true := f4
                refine .inl ⟨_, f4, fun hg => ?_, fun hg => ?_⟩
                · unfold Does
                  go_simp
                  exact ⟨Below.refl _ _, rfl⟩
                · exact absurd rfl hg
              · intro V w1 hbR ⟨f5, f6, f4, _⟩
                replace f4 : V 4 = .bool true := f4
                replace f5 : V 5 = .slice (some ⟨b, off, none⟩) ol.length c := f5
                replace f6 : V 6 = .int .i64 k := f6
                refine .inl ⟨_, f4, fun hg => ?_, fun hg => ?_⟩
                · unfold Does
                  go_simp
                  exact ⟨Below.refl _ _, rfl⟩
                · exact absurd rfl hg
              · intro V w1 hbR ⟨f7, f4, _⟩
                replace f4 : V 4 = .bool true := f4
                replace f7 : V 7 = .pointer (some ⟨b, off + k * 3, none⟩) := f7
                refine .inl ⟨_, f4, fun hg => ?_, fun hg => ?_⟩
                · obtain ⟨hc, hf⟩ := bcell hbR
                  try simp only [World.size_alloc, World.size_setCell] at hc hf
                  unfold Does
                  go_simp
                  exact ⟨Below.refl _ _, rfl⟩
                · exact absurd rfl hg
              · intro V w1 hbR ⟨f4, _⟩
                replace f4 : V 4 = .bool true := f4
                refine .inl ⟨_, f4, fun hg => ?_, fun hg => ?_⟩
                · unfold Does
                  go_simp
                  exact ⟨Below.refl _ _, rfl⟩
                · exact absurd rfl hg
              · intro V w1 hbR ⟨f4, _⟩
                replace f4 : V 4 = .bool true := f4
                refine .inl ⟨_, f4, fun hg => ?_, fun hg => ?_⟩
                · unfold Does
                  go_simp
                  exact ⟨Below.refl _ _, rfl⟩
                · exact absurd rfl hg
              · intro V w1 hbR ⟨f9, f10, f4, _⟩
                replace f4 : V 4 = .bool true := f4
                replace f9 : V 9 = .slice (some ⟨bt, ot, none⟩) ts.length tc := f9
                replace f10 : V 10 = .int .i64 i := f10
                refine .inl ⟨_, f4, fun hg => ?_, fun hg => ?_⟩
                · unfold Does
                  go_simp
                  exact ⟨Below.refl _ _, rfl⟩
                · exact absurd rfl hg
              · intro V w1 hbR ⟨f11, f4, _⟩
                replace f4 : V 4 = .bool true := f4
                replace f11 : V 11 = .pointer (some ⟨bt, ot + i * 3, none⟩) := f11
                refine .inl ⟨_, f4, fun hg => ?_, fun hg => ?_⟩
                · obtain ⟨hc, hf⟩ := bcell hbR
                  try simp only [World.size_alloc, World.size_setCell] at hc hf
                  unfold Does
                  go_simp
                  exact ⟨Below.refl _ _, rfl⟩
                · exact absurd rfl hg
              · intro V w1 hbR ⟨f8, f12, f4, _, _⟩
                replace f4 : V 4 = .bool true := f4
                replace f8 : V 8 = .agg #[.bool ol[k].pos, .string ol[k].atom.name, .slice ya ol[k].atom.args.length yc] := f8
                replace f12 : V 12 = .agg #[.bool ts[i].pos, .string ts[i].atom.name, .slice xa ts[i].atom.args.length xc] := f12
                refine .inl ⟨_, f4, fun hg => ?_, fun hg => ?_⟩
                · obtain ⟨hc, hf⟩ := bcell hbR
                  try simp only [World.size_alloc, World.size_setCell] at hc hf
                  unfold Does
                  go_simp
                  exact l7Literals_any (S := fun _ => True) (Lit.at_keep (Keeps.all hbR) HYY.out) (Lit.at_keep (Keeps.all hbR) HXX.out)
                · exact absurd rfl hg
              · intro V w1 hbR ⟨f13, f4, _⟩
                replace f4 : V 4 = .bool true := f4
                replace f13 : V 13 = .int .i64 (Lit.cmp ol[k] ts[i]) := f13
                refine .inl ⟨_, f4, fun hg => ?_, fun hg => ?_⟩
                · unfold Does
                  go_simp
                  exact ⟨Below.refl _ _, rfl⟩
                · exact absurd rfl hg
              · intro V w1 hbR ⟨f4, f14, _⟩
                replace f4 : V 4 = .bool true := f4
                replace f14 : V 14 = .bool false := f14
                unfold Does
                go_simp
                exact ⟨Below.refl _ _, rfl⟩
            intro V w3 hbR hfR
            obtain ⟨f0, f1, f2, f3, f4, f5, f6, f7, f8, f9, f10, f11, f12, f13, f14, f15, _⟩ := hfR
            replace f0 : V 0 = .int .i64 k := f0
            replace f1 : V 1 = .slice (some ⟨b, off, none⟩) ol.length c := f1
            replace f2 : V 2 = .int .i64 ol.length := f2
            replace f3 : V 3 = .bool true := f3
            replace f4 : V 4 = .bool true := f4
            replace f5 : V 5 = .slice (some ⟨b, off, none⟩) ol.length c := f5
            replace f6 : V 6 = .int .i64 k := f6
            replace f7 : V 7 = .pointer (some ⟨b, off + k * 3, none⟩) := f7
            replace f8 : V 8 = .agg #[.bool ol[k].pos, .string ol[k].atom.name, .slice ya ol[k].atom.args.length yc] := f8
            replace f9 : V 9 = .slice (some ⟨bt, ot, none⟩) ts.length tc := f9
            replace f10 : V 10 = .int .i64 i := f10
            replace f11 : V 11 = .pointer (some ⟨bt, ot + i * 3, none⟩) := f11
            replace f12 : V 12 = .agg #[.bool ts[i].pos, .string ts[i].atom.name, .slice xa ts[i].atom.args.length xc] := f12
            replace f13 : V 13 = .int .i64 (Lit.cmp ol[k] ts[i]) := f13
            replace f14 : V 14 = .bool false := f14
            replace f15 : V 15 = .bool false := f15
            simp only [f0, f1, f2, f3, f4, f5, f6, f7, f8, f9, f10, f11, f12, f13, f14, f15]
            clear f0 f1 f2 f3 f4 f5 f6 f7 f8 f9 f10 f11 f12 f13 f14 f15
            have HBN := hid (HBK.out.trans (hbR.mono HBK.out.size))
            replace r0 := (hbR.cell (p := ⟨b, off + k * 3, none⟩) hbk').trans r0
            replace r1 := (hbR.cell (p := ⟨b, off + k * 3 + 1, none⟩) hbk').trans r1
            replace r2 := (hbR.cell (p := ⟨b, off + k * 3 + 1 + 1, none⟩) hbk').trans r2
            replace s0 := (hbR.cell (p := ⟨bt, ot + i * 3, none⟩) hbtk).trans s0
            replace s1 := (hbR.cell (p := ⟨bt, ot + i * 3 + 1, none⟩) hbtk).trans s1
            replace s2 := (hbR.cell (p := ⟨bt, ot + i * 3 + 1 + 1, none⟩) hbtk).trans s2
            replace HXX := hid (Lit.at_keep (Keeps.all hbR) HXX.out)
            replace HYY := hid (Lit.at_keep (Keeps.all hbR) HYY.out)
            replace hbtk := Nat.lt_of_lt_of_le hbtk hbR.size
            replace hbk' := Nat.lt_of_lt_of_le hbk' hbR.size
            clear hbR hdl
            rename World => w3
            by_cases hc0 : Lit.cmp ol[k] ts[i] = 0
            · have HSM : Hid (insL ol ts[i] = ol) := insL_in hkl HK.out hc0
              have hdl : decide (Lit.cmp ol[k] ts[i] = 0) = true := decide_eq_true hc0
              have hdm : (Lit.cmp ol[k] ts[i] == 0) = true := by rw [beq_iff_eq]; exact hc0
              clear hc0
              go_wp2_with fail
              refine wp_region_B [fun v _ => v = .int .i64 k, fun v _ => v = .slice (some ⟨b, off, none⟩) ol.length c, fun v _ => v = .int .i64 ol.length, fun v _ => v = .bool true, fun v _ => v = .bool true, fun v _ => v = .slice (some ⟨b, off, none⟩) ol.length c, fun v _ => v = .int .i64 k, fun v _ => v = .pointer (some ⟨b, off + k * 3, none⟩), fun v _ => v = .agg #[.bool ol[k].pos, .string ol[k].atom.name, .slice ya ol[k].atom.args.length yc], fun v _ => v = .slice (some ⟨bt, ot, none⟩) ts.length tc, fun v _ => v = .int .i64 i, fun v _ => v = .pointer (some ⟨bt, ot + i * 3, none⟩), fun v _ => v = .agg #[.bool ts[i].pos, .string ts[i].atom.name, .slice xa ts[i].atom.args.length xc], fun v _ => v = .int .i64 (Lit.cmp ol[k] ts[i]), fun v _ => v = .bool true, fun v _ => v = .bool true] _ (fun V => by simp [putAll, Act.put]; rfl) (by kernel_rfl) (by decide) (by simp) (by kernel_rfl) ?_ ?_ ?_
              · intro F hF
                simp only [List.mem_cons, List.not_mem_nil, or_false] at hF
                rcases hF with rfl | rfl | rfl | rfl | rfl | rfl | rfl | rfl | rfl | rfl | rfl | rfl | rfl | rfl | rfl | rfl
                · exact stable_eq
                · exact stable_eq
                · exact stable_eq
                · exact stable_eq
                · exact stable_eq
                · exact stable_eq
                · exact stable_eq
                · exact stable_eq
                · exact stable_eq
                · exact stable_eq
                · exact stable_eq
                · exact stable_eq
                · exact stable_eq
                · exact stable_eq
                · exact stable_eq
                · exact stable_eq
              · refine ⟨?_, ?_, ?_, ?_, ?_, ?_, ?_, ?_, ?_, ?_, ?_, ?_, ?_, ?_, ?_, ?_, trivial⟩
                · intro V w1 hbR _
                  unfold Does
                  go_simp
                  exact ⟨Below.refl _ _, rfl⟩
                · intro V w1 hbR _
                  unfold Does
                  go_simp
                  exact ⟨Below.refl _ _, rfl⟩
                · intro V w1 hbR ⟨f1, _⟩
                  replace f1 : V 1 = .slice (some ⟨b, off, none⟩) ol.length c := f1
                  obtain ⟨hc, hf⟩ := bcell hbR
                  try simp only [World.size_alloc, World.size_setCell] at hc hf
                  unfold Does
                  go_simp
                  exact ⟨Below.refl _ _, rfl⟩
                · intro V w1 hbR ⟨f0, f2, _⟩
                  replace f0 : V 0 = .int .i64 k := f0
                  replace f2 : V 2 = .int .i64 ol.length := f2
                  unfold Does
                  go_simp
                  exact ⟨Below.refl _ _, rfl⟩
                · intro V w1 hbR ⟨f3, _⟩
                  replace f3 : V 3 = .bool true := f3
                  unfold Does
                  go_simp
                  exact ⟨Below.refl _ _, rfl⟩
                · intro V w1 hbR ⟨f4, _⟩
                  replace f4 : V 4 = .bool true := f4
                  refine .inl ⟨_, f4, fun hg => ?_, fun hg => ?_⟩
                  · unfold Does
                    go_simp
                    exact ⟨Below.refl _ _, rfl⟩
                  · exact absurd rfl hg
                · intro V w1 hbR ⟨f4, _⟩
                  replace f4 : V 4 = .bool true := f4
                  refine .inl ⟨_, f4, fun hg => ?_, fun hg => ?_⟩
                  · unfold Does
                    go_simp
                    exact ⟨Below.refl _ _, rfl⟩
                  · exact absurd rfl hg
                · intro V w1 hbR ⟨f5, f6, f4, _⟩
                  replace f4 : V 4 = .bool true := f4
                  replace f5 : V 5 = .slice (some ⟨b, off, none⟩) ol.length c := f5
                  replace f6 : V 6 = .int .i64 k := f6
                  refine .inl ⟨_, f4, fun hg => ?_, fun hg => ?_⟩
                  · unfold Does
                    go_simp
                    exact ⟨Below.refl _ _, rfl⟩
                  · exact absurd rfl hg
                · intro V w1 hbR ⟨f7, f4, _⟩
                  replace f4 : V 4 = .bool true := f4
                  replace f7 : V 7 = .pointer (some ⟨b, off + k * 3, none⟩) := f7
                  refine .inl ⟨_, f4, fun hg => ?_, fun hg => ?_⟩
                  · obtain ⟨hc, hf⟩ := bcell hbR
                    try simp only [World.size_alloc, World.size_setCell] at hc hf
                    unfold Does
                    go_simp
                    exact ⟨Below.refl _ _, rfl⟩
                  · exact absurd rfl hg
                · intro V w1 hbR ⟨f4, _⟩
                  replace f4 : V 4 = .bool true := f4
                  refine .inl ⟨_, f4, fun hg => ?_, fun hg => ?_⟩
                  · unfold Does
                    go_simp
                    exact ⟨Below.refl _ _, rfl⟩
                  · exact absurd rfl hg
                · intro V w1 hbR ⟨f4, _⟩
                  replace f4 : V 4 = .bool true := f4
                  refine .inl ⟨_, f4, fun hg => ?_, fun hg => ?_⟩
                  · unfold Does
                    go_simp
                    exact ⟨Below.refl _ _, rfl⟩
                  · exact absurd rfl hg
                · intro V w1 hbR ⟨f9, f10, f4, _⟩
                  replace f4 : V 4 = .bool true := f4
                  replace f9 : V 9 = .slice (some ⟨bt, ot, none⟩) ts.length tc := f9
                  replace f10 : V 10 = .int .i64 i := f10
                  refine .inl ⟨_, f4, fun hg => ?_, fun hg => ?_⟩
                  · unfold Does
                    go_simp
                    exact ⟨Below.refl _ _, rfl⟩
                  · exact absurd rfl hg
                · intro V w1 hbR ⟨f11, f4, _⟩
                  replace f4 : V 4 = .bool true := f4
                  replace f11 : V 11 = .pointer (some ⟨bt, ot + i * 3, none⟩) := f11
                  refine .inl ⟨_, f4, fun hg => ?_, fun hg => ?_⟩
                  · obtain ⟨hc, hf⟩ := bcell hbR
                    try simp only [World.size_alloc, World.size_setCell] at hc hf
                    unfold Does
                    go_simp
                    exact ⟨Below.refl _ _, rfl⟩
                  · exact absurd rfl hg
                · intro V w1 hbR ⟨f8, f12, f4, _, _⟩
                  replace f4 : V 4 = .bool true := f4
                  replace f8 : V 8 = .agg #[.bool ol[k].pos, .string ol[k].atom.name, .slice ya ol[k].atom.args.length yc] := f8
                  replace f12 : V 12 = .agg #[.bool ts[i].pos, .string ts[i].atom.name, .slice xa ts[i].atom.args.length xc] := f12
                  refine .inl ⟨_, f4, fun hg => ?_, fun hg => ?_⟩
                  · obtain ⟨hc, hf⟩ := bcell hbR
                    try simp only [World.size_alloc, World.size_setCell] at hc hf
                    unfold Does
                    go_simp
                    exact l7Literals_any (S := fun _ => True) (Lit.at_keep (Keeps.all hbR) HYY.out) (Lit.at_keep (Keeps.all hbR) HXX.out)
                  · exact absurd rfl hg
                · intro V w1 hbR ⟨f13, f4, _⟩
                  replace f4 : V 4 = .bool true := f4
                  replace f13 : V 13 = .int .i64 (Lit.cmp ol[k] ts[i]) := f13
                  refine .inl ⟨_, f4, fun hg => ?_, fun hg => ?_⟩
                  · unfold Does
                    go_simp
                    exact ⟨Below.refl _ _, rfl⟩
                  · exact absurd rfl hg
                · intro V w1 hbR ⟨f4, f14, _⟩
                  replace f4 : V 4 = .bool true := f4
                  replace f14 : V 14 = .bool true := f14
                  unfold Does
                  go_simp
                  exact ⟨Below.refl _ _, rfl⟩
              intro V w4 hbR hfR
              obtain ⟨f0, f1, f2, f3, f4, f5, f6, f7, f8, f9, f10, f11, f12, f13, f14, f15, _⟩ := hfR
              replace f0 : V 0 = .int .i64 k := f0
              replace f1 : V 1 = .slice (some ⟨b, off, none⟩) ol.length c := f1
              replace f2 : V 2 = .int .i64 ol.length := f2
              replace f3 : V 3 = .bool true := f3
              replace f4 : V 4 = .bool true := f4
              replace f5 : V 5 = .slice (some ⟨b, off, none⟩) ol.length c := f5
              replace f6 : V 6 = .int .i64 k := f6
              replace f7 : V 7 = .pointer (some ⟨b, off + k * 3, none⟩) := f7
              replace f8 : V 8 = .agg #[.bool ol[k].pos, .string ol[k].atom.name, .slice ya ol[k].atom.args.length yc] := f8
              replace f9 : V 9 = .slice (some ⟨bt, ot, none⟩) ts.length tc := f9
              replace f10 : V 10 = .int .i64 i := f10
              replace f11 : V 11 = .pointer (some ⟨bt, ot + i * 3, none⟩) := f11
              replace f12 : V 12 = .agg #[.bool ts[i].pos, .string ts[i].atom.name, .slice xa ts[i].atom.args.length xc] := f12
              replace f13 : V 13 = .int .i64 (Lit.cmp ol[k] ts[i]) := f13
              replace f14 : V 14 = .bool true := f14
              replace f15 : V 15 = .bool true := f15
              simp only [f0, f1, f2, f3, f4, f5, f6, f7, f8, f9, f10, f11, f12, f13, f14, f15]
              clear f0 f1 f2 f3 f4 f5 f6 f7 f8 f9 f10 f11 f12 f13 f14 f15
              clear r0 r1 r2 s0 s1 s2
              have HBM := hid (HBN.out.trans (hbR.mono HBN.out.size))
              rename World => w4
              have HRO4 := hid (D.rd_keep (Keeps.all HBM.out) _ _ HRO.out)
              have HOL4 : Hid (ol = makeL (ts.take (i + 1))) := by rw [Hid, HIN.out, HSM.out]
              have hz4 := HBM.out.size
              go_wp2_with fail
              go_roundw
              case rel => exact ⟨i + 1, b, off, c, ol, by omega, rfl, by go_num, HOL4, HRO4, by omega, by omega, HB.out.trans (HBM.out.mono (by omega))⟩
              case measure => simp [intOf]; omega
            · have HIK : Hid (insL ol ts[i] = ol.take k ++ ts[i] :: ol.drop k) := insL_at hk HK.out (fun _ => ⟨by have := HCL.out; omega, hc0⟩)
              have hdl : decide (Lit.cmp ol[k] ts[i] = 0) = false := decide_eq_false hc0
              have hdm : (Lit.cmp ol[k] ts[i] == 0) = false := by rw [beq_eq_false_iff_ne]; exact hc0
              clear hc0
              go_wp2_with fail
              refine wp_region_B [fun v _ => v = .int .i64 k, fun v _ => v = .slice (some ⟨b, off, none⟩) ol.length c, fun v _ => v = .int .i64 ol.length, fun v _ => v = .bool true, fun v _ => v = .bool true, fun v _ => v = .slice (some ⟨b, off, none⟩) ol.length c, fun v _ => v = .int .i64 k, fun v _ => v = .pointer (some ⟨b, off + k * 3, none⟩), fun v _ => v = .agg #[.bool ol[k].pos, .string ol[k].atom.name, .slice ya ol[k].atom.args.length yc], fun v _ => v = .slice (some ⟨bt, ot, none⟩) ts.length tc, fun v _ => v = .int .i64 i, fun v _ => v = .pointer (some ⟨bt, ot + i * 3, none⟩), fun v _ => v = .agg #[.bool ts[i].pos, .string ts[i].atom.name, .slice xa ts[i].atom.args.length xc], fun v _ => v = .int .i64 (Lit.cmp ol[k] ts[i]), fun v _ => v = .bool false, fun v _ => v = .bool false] _ (fun V => by simp [putAll, Act.put]; rfl) (by kernel_rfl) (by decide) (by simp) (by kernel_rfl) ?_ ?_ ?_
              · intro F hF
                simp only [List.mem_cons, List.not_mem_nil, or_false] at hF
                rcases hF with rfl | rfl | rfl | rfl | rfl | rfl | rfl | rfl | rfl | rfl | rfl | rfl | rfl | rfl | rfl | rfl
                · exact stable_eq
                · exact stable_eq
                · exact stable_eq
                · exact stable_eq
                · exact stable_eq
                · exact stable_eq
                · exact stable_eq
                · exact stable_eq
                · exact stable_eq
                · exact stable_eq
                · exact stable_eq
                · exact stable_eq
                · exact stable_eq
                · exact stable_eq
                · exact stable_eq
                · exact stable_eq
              · refine ⟨?_, ?_, ?_, ?_, ?_, ?_, ?_, ?_, ?_, ?_, ?_, ?_, ?_, ?_, ?_, ?_, trivial⟩
                · intro V w1 hbR _
                  unfold Does
                  go_simp
                  exact ⟨Below.refl _ _, rfl⟩
                · intro V w1 hbR _
                  unfold Does
                  go_simp
                  exact ⟨Below.refl _ _, rfl⟩
                · intro V w1 hbR ⟨f1, _⟩
                  replace f1 : V 1 = .slice (some ⟨b, off, none⟩) ol.length c := f1
                  obtain ⟨hc, hf⟩ := bcell hbR
                  try simp only [World.size_alloc, World.size_setCell] at hc hf
                  unfold Does
                  go_simp
                  exact ⟨Below.refl _ _, rfl⟩
                · intro V w1 hbR ⟨f0, f2, _⟩
                  replace f0 : V 0 = .int .i64 k := f0
                  replace f2 : V 2 = .int .i64 ol.length := f2
                  unfold Does
                  go_simp
                  exact ⟨Below.refl _ _, rfl⟩
                · intro V w1 hbR ⟨f3, _⟩
                  replace f3 : V 3 = .bool true := f3
                  unfold Does
                  go_simp
                  exact ⟨Below.refl _ _, rfl⟩
                · intro V w1 hbR ⟨f4, _⟩
                  replace f4 : V 4 = .bool true := f4
                  refine .inl ⟨_, f4, fun hg => ?_, fun hg => ?_⟩
                  · unfold Does
                    go_simp
                    exact ⟨Below.refl _ _, rfl⟩
                  · exact absurd rfl hg
                · intro V w1 hbR ⟨f4, _⟩
                  replace f4 : V 4 = .bool true := f4
                  refine .inl ⟨_, f4, fun hg => ?_, fun hg => ?_⟩
                  · unfold Does
                    go_simp
                    exact ⟨Below.refl _ _, rfl⟩
                  · exact absurd rfl hg
                · intro V w1 hbR ⟨f5, f6, f4, _⟩
                  replace f4 : V 4 = .bool true := f4
                  replace f5 : V 5 = .slice (some ⟨b, off, none⟩) ol.length c := f5
                  replace f6 : V 6 = .int .i64 k := f6
                  refine .inl ⟨_, f4, fun hg => ?_, fun hg => ?_⟩
                  · unfold Does
                    go_simp
                    exact ⟨Below.refl _ _, rfl⟩
                  · exact absurd rfl hg
                · intro V w1 hbR ⟨f7, f4, _⟩
                  replace f4 : V 4 = .bool true := f4
                  replace f7 : V 7 = .pointer (some ⟨b, off + k * 3, none⟩) := f7
                  refine .inl ⟨_, f4, fun hg => ?_, fun hg => ?_⟩
                  · obtain ⟨hc, hf⟩ := bcell hbR
                    try simp only [World.size_alloc, World.size_setCell] at hc hf
                    unfold Does
                    go_simp
                    exact ⟨Below.refl _ _, rfl⟩
                  · exact absurd rfl hg
                · intro V w1 hbR ⟨f4, _⟩
                  replace f4 : V 4 = .bool true := f4
                  refine .inl ⟨_, f4, fun hg => ?_, fun hg => ?_⟩
                  · unfold Does
                    go_simp
                    exact ⟨Below.refl _ _, rfl⟩
                  · exact absurd rfl hg
                · intro V w1 hbR ⟨f4, _⟩
                  replace f4 : V 4 = .bool true := f4
                  refine .inl ⟨_, f4, fun hg => ?_, fun hg => ?_⟩
                  · unfold Does
                    go_simp
                    exact ⟨Below.refl _ _, rfl⟩
                  · exact absurd rfl hg
                · intro V w1 hbR ⟨f9, f10, f4, _⟩
                  replace f4 : V 4 = .bool true := f4
                  replace f9 : V 9 = .slice (some ⟨bt, ot, none⟩) ts.length tc := f9
                  replace f10 : V 10 = .int .i64 i := f10
                  refine .inl ⟨_, f4, fun hg => ?_, fun hg => ?_⟩
                  · unfold Does
                    go_simp
                    exact ⟨Below.refl _ _, rfl⟩
                  · exact absurd rfl hg
                · intro V w1 hbR ⟨f11, f4, _⟩
                  replace f4 : V 4 = .bool true := f4
                  replace f11 : V 11 = .pointer (some ⟨bt, ot + i * 3, none⟩) := f11
                  refine .inl ⟨_, f4, fun hg => ?_, fun hg => ?_⟩
                  · obtain ⟨hc, hf⟩ := bcell hbR
                    try simp only [World.size_alloc, World.size_setCell] at hc hf
                    unfold Does
                    go_simp
                    exact ⟨Below.refl _ _, rfl⟩
                  · exact absurd rfl hg
                · intro V w1 hbR ⟨f8, f12, f4, _, _⟩
                  replace f4 : V 4 = .bool true := f4
                  replace f8 : V 8 = .agg #[.bool ol[k].pos, .string ol[k].atom.name, .slice ya ol[k].atom.args.length yc] := f8
                  replace f12 : V 12 = .agg #[.bool ts[i].pos, .string ts[i].atom.name, .slice xa ts[i].atom.args.length xc] := f12
                  refine .inl ⟨_, f4, fun hg => ?_, fun hg => ?_⟩
                  · obtain ⟨hc, hf⟩ := bcell hbR
                    try simp only [World.size_alloc, World.size_setCell] at hc hf
                    unfold Does
                    go_simp
                    exact l7Literals_any (S := fun _ => True) (Lit.at_keep (Keeps.all hbR) HYY.out) (Lit.at_keep (Keeps.all hbR) HXX.out)
                  · exact absurd rfl hg
                · intro V w1 hbR ⟨f13, f4, _⟩
                  replace f4 : V 4 = .bool true := f4
                  replace f13 : V 13 = .int .i64 (Lit.cmp ol[k] ts[i]) := f13
                  refine .inl ⟨_, f4, fun hg => ?_, fun hg => ?_⟩
                  · unfold Does
                    go_simp
                    exact ⟨Below.refl _ _, rfl⟩
                  · exact absurd rfl hg
                · intro V w1 hbR ⟨f4, f14, _⟩
                  replace f4 : V 4 = .bool true := f4
                  replace f14 : V 14 = .bool false := f14
                  unfold Does
                  go_simp
                  exact ⟨Below.refl _ _, rfl⟩
              intro V w4 hbR hfR
              obtain ⟨f0, f1, f2, f3, f4, f5, f6, f7, f8, f9, f10, f11, f12, f13, f14, f15, _⟩ := hfR
              replace f0 : V 0 = .int .i64 k := f0
              replace f1 : V 1 = .slice (some ⟨b, off, none⟩) ol.length c := f1
              replace f2 : V 2 = .int .i64 ol.length := f2
              replace f3 : V 3 = .bool true := f3
              replace f4 : V 4 = .bool true := f4
              replace f5 : V 5 = .slice (some ⟨b, off, none⟩) ol.length c := f5
              replace f6 : V 6 = .int .i64 k := f6
              replace f7 : V 7 = .pointer (some ⟨b, off + k * 3, none⟩) := f7
              replace f8 : V 8 = .agg #[.bool ol[k].pos, .string ol[k].atom.name, .slice ya ol[k].atom.args.length yc] := f8
              replace f9 : V 9 = .slice (some ⟨bt, ot, none⟩) ts.length tc := f9
              replace f10 : V 10 = .int .i64 i := f10
              replace f11 : V 11 = .pointer (some ⟨bt, ot + i * 3, none⟩) := f11
              replace f12 : V 12 = .agg #[.bool ts[i].pos, .string ts[i].atom.name, .slice xa ts[i].atom.args.length xc] := f12
              replace f13 : V 13 = .int .i64 (Lit.cmp ol[k] ts[i]) := f13
              replace f14 : V 14 = .bool false := f14
              replace f15 : V 15 = .bool false := f15
              simp only [f0, f1, f2, f3, f4, f5, f6, f7, f8, f9, f10, f11, f12, f13, f14, f15]
              clear f0 f1 f2 f3 f4 f5 f6 f7 f8 f9 f10 f11 f12 f13 f14 f15
              clear r0 r1 r2 s0 s1 s2
              have HBZ := hid (HBN.out.trans (hbR.mono HBN.out.size))
              clear hbR
              rename World => wz
              go_wp2_with fail
              have HBZ0 := HBZ.out.size
              have s0 := (HBZ.out.cell (p := ⟨bt, ot + i * 3, none⟩) hbtr).trans p0
              have s1 := (HBZ.out.cell (p := ⟨bt, ot + i * 3 + 1, none⟩) hbtr).trans p1
              have s2 := (HBZ.out.cell (p := ⟨bt, ot + i * 3 + 1 + 1, none⟩) hbtr).trans p2
              have hbtz := Nat.lt_of_lt_of_le hbtr HBZ0
              have HXZ := hid (Lit.at_keep (Keeps.all HBZ.out) HX.out)
              have HOW : Hid (∀ w', Below wz.heap.size wz w' → Calls Tryz.prog 61 #[.agg #[.string ts[i].atom.name, .slice xa ts[i].atom.args.length xc]] w' (MadeT ts[i].atom w')) := fun w' h => ownT_any ts[i].atom _ _ _ w' (Tm.at_keep (Keeps.all h) (Lit.at_atom HXZ.out)) hbm
              have HMK : Hid (∀ w', Below wz.heap.size wz w' → (Below wz.heap.size wz w' ∧ w'.cell? ⟨bt, ot + i * 3, none⟩ = some (.bool ts[i].pos) ∧ w'.cell? ⟨bt, ot + i * 3 + 1, none⟩ = some (.string ts[i].atom.name) ∧ w'.cell? ⟨bt, ot + i * 3 + 1 + 1, none⟩ = some (.slice xa ts[i].atom.args.length xc))) := fun w' h => ⟨h, (h.cell (p := ⟨bt, ot + i * 3, none⟩) hbtz).trans s0, (h.cell (p := ⟨bt, ot + i * 3 + 1, none⟩) hbtz).trans s1, (h.cell (p := ⟨bt, ot + i * 3 + 1 + 1, none⟩) hbtz).trans s2⟩
              go_cut [6] from 8 to 71 (fun v6 wc => LEnd wz ts[i] v6 wc)
              case first =>
                go_region_held3 (fun w' => Below wz.heap.size wz w' ∧ w'.cell? ⟨bt, ot + i * 3, none⟩ = some (.bool ts[i].pos) ∧ w'.cell? ⟨bt, ot + i * 3 + 1, none⟩ = some (.string ts[i].atom.name) ∧ w'.cell? ⟨bt, ot + i * 3 + 1 + 1, none⟩ = some (.slice xa ts[i].atom.args.length xc))
                  (first | exact HMK.out _ (Below.refl _ _).drew | exact HMK.out _ (((Below.refl _ _).drew).alloc (Nat.le_refl _) _) | exact HMK.out _ hB1 | exact HMK.out _ (hB1.alloc hB1.size _) | exact HMK.out _ (((hB1.setCell (p := ⟨wz.heap.size, 0, none⟩) (Nat.le_refl _) _).setCell (p := ⟨wz.heap.size, 1, none⟩) (Nat.le_refl _) _).setCell (p := ⟨wz.heap.size, 2, none⟩) (Nat.le_refl _) _) | assumption)
                  (first | (go_at_call 61; refine (HOW.out _ (by first | exact (Below.refl _ _).drew | exact ((Below.refl _ _).drew).alloc (Nat.le_refl _) _)).mono ?_; rintro e w2 ⟨v2, G, rfl, ho, hG, hb2⟩; obtain ⟨a1, c1, rfl⟩ := Tm.sd_own_form ho; have hB1 : Below wz.heap.size wz w2 := (by first | exact (Below.refl _ _).drew.trans hb2 | exact (((Below.refl wz.heap.size wz).alloc (Nat.le_refl _) _).drew).trans (hb2.mono (by show wz.heap.size ≤ (World.heap _).size; simp)) | exact (((Below.refl wz.heap.size wz).drew).alloc (Nat.le_refl _) _).trans (hb2.mono (by show wz.heap.size ≤ (World.alloc _ _).heap.size; rw [World.size_alloc]; exact Nat.le_succ _))); (first | (have zb : LBox w2 wz.heap.size := (by first | exact ((LBox.new wz).keep (Below.refl _ _).drew).keep hb2 | exact (LBox.new wz.drew).keep hb2); have zl := zb.1; have zc0 := zb.2.1.1; have zc1 := zb.2.1.2.1; have zc2 := zb.2.1.2.2; have zf0 := zb.2.2 0; have zf1 := zb.2.2 1; have zf2 := zb.2.2 2) | skip)))
                all_goals
                  go_wp2_with fail
                  go_meet
                  case rel =>
                    first
                    | exact LEnd.filled zb hB1 (Nat.le_refl _) ho (fun y hy => by have := hG y hy; first | exact this | (simp at this; omega)) (fun q => by have q1 := hG _ q; simp at q1; omega)
                    | exact LEnd.last hB1 ho hG
              obtain ⟨tb, a1, c1, G, rfl, HTB, HOW2, HGW, htbz, HTG, HBC⟩ := hcut
              clear HMK HOW s0 s1 s2
              have hzc := HBC.size
              have t0 := HTB.out.c0
              have t1 := HTB.out.c1
              have t2 : wc.cell? ⟨tb, 1 + 1, none⟩ = _ := HTB.out.c2
              have ltb := HTB.out.lt
              have HBRC := hid (HBZ.out.trans (HBC.mono HBZ.out.size))
              have HSO : Hid (D.rd (fun y => w.heap.size + 1 ≤ y ∧ y < wc.heap.size) wc (.slice (some ⟨b, off, none⟩) ol.length c) (Lit.sd ol)) := D.rd_bothL _ _ (D.rd_keep (Keeps.all HBRC.out) _ _ HRO.out)
              have HRX : Hid (CellsRd (fun y => w.heap.size + 1 ≤ y ∧ y < wc.heap.size) wc [.bool ts[i].pos, .string ts[i].atom.name, .slice a1 ts[i].atom.args.length c1] (Lit.cs ts[i])) := by
                rw [Hid, Lit.cs_eq]
                have hlt' := D.own_lt _ _ _ HOW2.out
                exact ⟨by rw [D.rd], D.rd_str hnl, D.rd_mono (fun y hy => ⟨by have := HGW.out y hy; omega, hlt' y hy⟩) _ _ (D.own_rd _ _ _ HOW2.out), trivial⟩
              obtain ⟨vs1, hl1, hR1, hc1⟩ := Lit.piece HSO.out 0 k (by omega)
              obtain ⟨vs2, hl2, hR2, hc2⟩ := Lit.piece HSO.out k (ol.length - k) (by omega)
              rw [List.drop_zero] at hR1
              have HL1 := hid hl1
              have HL2 := hid hl2
              have HR1 := hid hR1
              have HR2 := hid hR2
              have HC1 := hid hc1
              have HC2 := hid hc2
              obtain ⟨op, hpa, hop⟩ : ∃ op, (if c = k then some (⟨b, off, none⟩ : Addr) else some ⟨b, off + k * 3, none⟩) = some ⟨b, op, none⟩ ∧ (k < ol.length → op = off + k * 3) := by
                by_cases hck : c = k
                · exact ⟨off, by rw [if_pos hck], fun h => absurd h (by omega)⟩
                · exact ⟨off + k * 3, by rw [if_neg hck], fun _ => rfl⟩
              have HOP := hid hop
              have hkS : (k : Int) ≤ (ol.length : Int) := by omega
              have hkC : (k : Int) ≤ (c : Int) := by omega
              have hnC : (ol.length : Int) ≤ (c : Int) := by omega
              have hbc : b < wc.heap.size := by have := HBRC.out.size; omega
              have hS0 : wc.cell? ⟨tb, 0, none⟩ = some (.bool ts[i].pos) ∧ wc.cell? ⟨tb, 1, none⟩ = some (.string ts[i].atom.name) ∧ wc.cell? ⟨tb, 1 + 1, none⟩ = some (.slice a1 ts[i].atom.args.length c1) := ⟨t0, t1, t2⟩
              clear hl1 hl2 hR1 hR2 hc1 hc2 hop
              go_wp2_with fail
              go_region_held3 (fun w' => w'.cell? ⟨tb, 0, none⟩ = some (.bool ts[i].pos) ∧ w'.cell? ⟨tb, 1, none⟩ = some (.string ts[i].atom.name) ∧ w'.cell? ⟨tb, 1 + 1, none⟩ = some (.slice a1 ts[i].atom.args.length c1))
                (first | exact hS0 | exact hS3 | exact hS2 | exact hS1 | assumption | exact ⟨cell_alloc hS1.1 _, cell_alloc hS1.2.1 _, cell_alloc hS1.2.2 _⟩ | exact ⟨cell_alloc hS0.1 _, cell_alloc hS0.2.1 _, cell_alloc hS0.2.2 _⟩ | exact ⟨cell_alloc (cell_alloc hS0.1 _) _, cell_alloc (cell_alloc hS0.2.1 _) _, cell_alloc (cell_alloc hS0.2.2 _) _⟩)
                (first
                  | (refine step_append_rv (S := (fun y => w.heap.size + 1 ≤ y ∧ y < wc.heap.size)) (B := wc.heap.size) (ds := []) (n := 0) (b := b) (off := off) (k := k) (news := vs1) Tryz.underlying26 infoLitI rfl (by decide) (by decide) rfl _ _ (by rfl) (by rfl) (by rfl) (by first | exact (Rv.made 52 3 (w := wc) rfl (Nat.le_refl _)).keep (Below.refl _ _).drew | exact ((Rv.made 52 3 (w := wc) rfl (Nat.le_refl _)).keep ((Below.refl _ _).alloc (Nat.le_refl _) _)).keep (Below.refl _ _).drew | exact (Rv.made 52 3 (w := wc.alloc (.cells #[.bool ts[i].pos, .string ts[i].atom.name, .slice a1 ts[i].atom.args.length c1] 52)) (by simp) (by simp)).keep (Below.refl _ _).drew) (fun y hy q => by (have h1 := Option.some.inj hy); (have h2 := q.2); simp at h1; omega) HL1.out (fun j u hj => (((by first | exact ((Below.refl _ _).alloc (Nat.le_refl _) _).drew | exact (((Below.refl wc.heap.size wc).alloc (Nat.le_refl _) _).alloc (by rw [World.size_alloc]; exact Nat.le_succ _) _).drew) : Below wc.heap.size wc _).cell (p := ⟨b, off + j, none⟩) hbc).trans (by have := HC1.out j u hj; rwa [Nat.zero_mul, Nat.add_zero] at this)) (HR1.out.keep (Keeps.all ((by first | exact ((Below.refl _ _).alloc (Nat.le_refl _) _).drew | exact (((Below.refl wc.heap.size wc).alloc (Nat.le_refl _) _).alloc (by rw [World.size_alloc]; exact Nat.le_succ _) _).drew) : Below wc.heap.size wc _))) (by omega) (by show wc.heap.size ≤ (World.heap _).size; simp; try omega) ?_; intro v1 w1 hr1 hg1 hgo1; have hb1 : Below wc.heap.size wc w1 := below_grown (by first | exact ((Below.refl _ _).alloc (Nat.le_refl _) _).drew | exact (((Below.refl wc.heap.size wc).alloc (Nat.le_refl _) _).alloc (by rw [World.size_alloc]; exact Nat.le_succ _) _).drew) hg1 (by show wc.heap.size ≤ (World.heap _).size; simp; try omega) (fun y hy => by (have h1 := Option.some.inj hy); simp at h1; omega); (first | (have hit : ∀ j u, ([.bool ts[i].pos, .string ts[i].atom.name, .slice a1 ts[i].atom.args.length c1] : List Value)[j]? = some u → w1.cell? ⟨wc.heap.size + 1, j, none⟩ = some u := fun j u hj => ((bcellG hg1).1 (wc.heap.size + 1) j (by show _ < (World.heap _).size; simp) (fun e => by (have h1 := Option.some.inj e); simp at h1; try omega)).trans ((itemO2 wc _ #[.bool ts[i].pos, .string ts[i].atom.name, .slice a1 ts[i].atom.args.length c1] _ j).trans (by simpa using hj))) | (have hit : ∀ j u, ([.bool ts[i].pos, .string ts[i].atom.name, .slice a1 ts[i].atom.args.length c1] : List Value)[j]? = some u → w1.cell? ⟨wc.heap.size, j, none⟩ = some u := fun j u hj => ((bcellG hg1).1 wc.heap.size j (by show _ < (World.heap _).size; simp; omega) (fun e => by (have h1 := Option.some.inj e); simp at h1; try omega)).trans ((itemO3 wc _ #[.bool ts[i].pos, .string ts[i].atom.name, .slice a1 ts[i].atom.args.length c1] _ j).trans (by simpa using hj))) | skip); have hS1 : w1.cell? ⟨tb, 0, none⟩ = some (.bool ts[i].pos) ∧ w1.cell? ⟨tb, 1, none⟩ = some (.string ts[i].atom.name) ∧ w1.cell? ⟨tb, 1 + 1, none⟩ = some (.slice a1 ts[i].atom.args.length c1) := ⟨(hb1.cell (p := ⟨tb, 0, none⟩) ltb).trans t0, (hb1.cell (p := ⟨tb, 1, none⟩) ltb).trans t1, (hb1.cell (p := ⟨tb, 1 + 1, none⟩) ltb).trans t2⟩)
                  | (refine step_append_rv (S := (fun y => w.heap.size + 1 ≤ y ∧ y < wc.heap.size)) (B := wc.heap.size) (b := b) (off := op) (k := ol.length - k) (news := vs2) Tryz.underlying26 infoLitI rfl (by decide) (by decide) rfl _ _ (by rfl) (by rfl) (by rfl) hr2 (fun y hy q => by (have h1 := (hr2.lt y hy).1); (have h2 := q.2); omega) HL2.out (fun j u hj => by (have hkl : k < ol.length := by (have h1 := (List.getElem?_eq_some_iff.1 hj).1); rw [HL2.out] at h1; omega); rw [HOP.out hkl]; exact (hb2.cell (p := ⟨b, off + k * 3 + j, none⟩) hbc).trans (HC2.out j u hj)) (HR2.out.keep (Keeps.all hb2)) (by omega) hb2.size ?_; intro v3 w3 hr3 hg3 hgo3; have hb3 : Below wc.heap.size wc w3 := below_grown hb2 hg3 hb2.size (fun y hy => (hr2.lt y hy).1); have hS3 : w3.cell? ⟨tb, 0, none⟩ = some (.bool ts[i].pos) ∧ w3.cell? ⟨tb, 1, none⟩ = some (.string ts[i].atom.name) ∧ w3.cell? ⟨tb, 1 + 1, none⟩ = some (.slice a1 ts[i].atom.args.length c1) := ⟨(hb3.cell (p := ⟨tb, 0, none⟩) ltb).trans t0, (hb3.cell (p := ⟨tb, 1, none⟩) ltb).trans t1, (hb3.cell (p := ⟨tb, 1 + 1, none⟩) ltb).trans t2⟩)
                  | (refine step_append_rv (S := (fun y => w.heap.size + 1 ≤ y ∧ y < wc.heap.size)) (B := wc.heap.size) (off := 0) (k := 1) (news := [.bool ts[i].pos, .string ts[i].atom.name, .slice a1 ts[i].atom.args.length c1]) Tryz.underlying26 infoLitI rfl (by decide) (by decide) rfl _ _ (by rfl) (by rfl) (by rfl) (by first | exact hr1 | exact hr1.keep ((Below.refl _ _).alloc (Nat.le_refl _) _)) (fun y hy q => by (have h1 := (hr1.lt y hy).1); (have h2 := q.2); omega) rfl (by first | exact fun j u hj => by rw [Nat.zero_add]; exact hit j u hj | (intro j u hj; rw [Nat.zero_add, box1]; simpa using hj)) (HRX.out.keep (Keeps.all (by first | exact hb1 | exact hb1.alloc hb1.size _))) (by omega) (by first | exact hb1.size | (rw [World.size_alloc]; exact Nat.le_succ_of_le hb1.size)) ?_; intro v2 w2 hr2 hg2 hgo2; have hb2 : Below wc.heap.size wc w2 := below_grown (by first | exact hb1 | exact hb1.alloc hb1.size _) hg2 (by first | exact hb1.size | (rw [World.size_alloc]; exact Nat.le_succ_of_le hb1.size)) (fun y hy => (hr1.lt y hy).1); have hS2 : w2.cell? ⟨tb, 0, none⟩ = some (.bool ts[i].pos) ∧ w2.cell? ⟨tb, 1, none⟩ = some (.string ts[i].atom.name) ∧ w2.cell? ⟨tb, 1 + 1, none⟩ = some (.slice a1 ts[i].atom.args.length c1) := ⟨(hb2.cell (p := ⟨tb, 0, none⟩) ltb).trans t0, (hb2.cell (p := ⟨tb, 1, none⟩) ltb).trans t1, (hb2.cell (p := ⟨tb, 1 + 1, none⟩) ltb).trans t2⟩))
              all_goals
                obtain ⟨ol', HOL'⟩ : ∃ z, Hid (insL ol ts[i] = z) := ⟨_, hid rfl⟩
                have hln' : 0 + k + 1 + (ol.length - k) = ol'.length := by rw [← HOL'.out, HIK.out]; simp; omega
                have hcs' : [] ++ Lit.css (ol.take k) ++ Lit.cs ts[i] ++ Lit.css ((ol.drop k).take (ol.length - k)) = Lit.css ol' := by
                  have htk : (ol.drop k).take (ol.length - k) = ol.drop k := List.take_of_length_le (by rw [List.length_drop]; omega)
                  rw [← HOL'.out, HIK.out, htk]
                  simp [Lit.css_flat, List.flatMap_append]
                rw [hln', hcs'] at hr3
                have hr4 := hr3
                obtain ⟨vs3, h30, -⟩ := hr4
                obtain ⟨g3, cp3, rfl, -⟩ := h30.form (by omega)
                have HD3 := hid ((hr3.mono (S' := fun y => w.heap.size + 1 ≤ y) (fun y q => q.1)).rd (by decide) (fun y hy => by have := (hr3.lt y hy).1; omega))
                rw [← Lit.sd_css] at HD3
                have hg3l := (hr3.lt g3 rfl).2
                have HOLN : Hid (ol' = makeL (ts.take (i + 1))) := by rw [Hid, HIN.out, HOL'.out]
                have HBN3 : Hid (Below (w.heap.size + 1) w0 w3) := HB.out.trans ((HBRC.out.trans (hb3.mono HBRC.out.size)).mono (by omega))
                have hz3 := hb3.size
                have hz4 := HBRC.out.size
                clear hr3 h30 hb3 hS3 hS2 hS1 hS0 hb1 hb2 hr1 hr2 hg1 hg2 hg3 hgo1 hgo2 hgo3 hln' hcs' hpa t0 t1 t2 ltb
                go_wp2_with fail
                go_roundw
                case rel => exact ⟨i + 1, g3, 0, cp3, ol', by omega, rfl, by go_num, HOLN, HD3, hg3l, by omega, HBN3⟩
                case measure => simp [intOf]; omega
        · have HIK : Hid (insL ol ts[i] = ol.take k ++ ts[i] :: ol.drop k) := insL_at hk HK.out (fun h => absurd h hkl)
          have hkn : ¬ (k : Int) < (ol.length : Int) := by omega
          clear s0 s1 s2
          go_wp2_with fail
          go_quiet (fail)
          have HBN := hid (HBK.out.trans (drewN_belowL (n := nq)))
          generalize wk.drewN nq = wq at *
          go_wp2_with fail
          go_quiet (fail)
          have HBZ := hid (HBN.out.trans (drewN_belowL (n := nq)))
          generalize wq.drewN nq = wz at *
          go_wp2_with fail
          have HBZ0 := HBZ.out.size
          have s0 := (HBZ.out.cell (p := ⟨bt, ot + i * 3, none⟩) hbtr).trans p0
          have s1 := (HBZ.out.cell (p := ⟨bt, ot + i * 3 + 1, none⟩) hbtr).trans p1
          have s2 := (HBZ.out.cell (p := ⟨bt, ot + i * 3 + 1 + 1, none⟩) hbtr).trans p2
          have hbtz := Nat.lt_of_lt_of_le hbtr HBZ0
          have HXZ := hid (Lit.at_keep (Keeps.all HBZ.out) HX.out)
          have HOW : Hid (∀ w', Below wz.heap.size wz w' → Calls Tryz.prog 61 #[.agg #[.string ts[i].atom.name, .slice xa ts[i].atom.args.length xc]] w' (MadeT ts[i].atom w')) := fun w' h => ownT_any ts[i].atom _ _ _ w' (Tm.at_keep (Keeps.all h) (Lit.at_atom HXZ.out)) hbm
          have HMK : Hid (∀ w', Below wz.heap.size wz w' → (Below wz.heap.size wz w' ∧ w'.cell? ⟨bt, ot + i * 3, none⟩ = some (.bool ts[i].pos) ∧ w'.cell? ⟨bt, ot + i * 3 + 1, none⟩ = some (.string ts[i].atom.name) ∧ w'.cell? ⟨bt, ot + i * 3 + 1 + 1, none⟩ = some (.slice xa ts[i].atom.args.length xc))) := fun w' h => ⟨h, (h.cell (p := ⟨bt, ot + i * 3, none⟩) hbtz).trans s0, (h.cell (p := ⟨bt, ot + i * 3 + 1, none⟩) hbtz).trans s1, (h.cell (p := ⟨bt, ot + i * 3 + 1 + 1, none⟩) hbtz).trans s2⟩
          go_cut [6] from 8 to 71 (fun v6 wc => LEnd wz ts[i] v6 wc)
          case first =>
            go_region_held3 (fun w' => Below wz.heap.size wz w' ∧ w'.cell? ⟨bt, ot + i * 3, none⟩ = some (.bool ts[i].pos) ∧ w'.cell? ⟨bt, ot + i * 3 + 1, none⟩ = some (.string ts[i].atom.name) ∧ w'.cell? ⟨bt, ot + i * 3 + 1 + 1, none⟩ = some (.slice xa ts[i].atom.args.length xc))
              (first | exact HMK.out _ (Below.refl _ _).drew | exact HMK.out _ (((Below.refl _ _).drew).alloc (Nat.le_refl _) _) | exact HMK.out _ hB1 | exact HMK.out _ (hB1.alloc hB1.size _) | exact HMK.out _ (((hB1.setCell (p := ⟨wz.heap.size, 0, none⟩) (Nat.le_refl _) _).setCell (p := ⟨wz.heap.size, 1, none⟩) (Nat.le_refl _) _).setCell (p := ⟨wz.heap.size, 2, none⟩) (Nat.le_refl _) _) | assumption)
              (first | (go_at_call 61; refine (HOW.out _ (by first | exact (Below.refl _ _).drew | exact ((Below.refl _ _).drew).alloc (Nat.le_refl _) _)).mono ?_; rintro e w2 ⟨v2, G, rfl, ho, hG, hb2⟩; obtain ⟨a1, c1, rfl⟩ := Tm.sd_own_form ho; have hB1 : Below wz.heap.size wz w2 := (by first | exact (Below.refl _ _).drew.trans hb2 | exact (((Below.refl wz.heap.size wz).alloc (Nat.le_refl _) _).drew).trans (hb2.mono (by show wz.heap.size ≤ (World.heap _).size; simp)) | exact (((Below.refl wz.heap.size wz).drew).alloc (Nat.le_refl _) _).trans (hb2.mono (by show wz.heap.size ≤ (World.alloc _ _).heap.size; rw [World.size_alloc]; exact Nat.le_succ _))); (first | (have zb : LBox w2 wz.heap.size := (by first | exact ((LBox.new wz).keep (Below.refl _ _).drew).keep hb2 | exact (LBox.new wz.drew).keep hb2); have zl := zb.1; have zc0 := zb.2.1.1; have zc1 := zb.2.1.2.1; have zc2 := zb.2.1.2.2; have zf0 := zb.2.2 0; have zf1 := zb.2.2 1; have zf2 := zb.2.2 2) | skip)))
            all_goals
              go_wp2_with fail
              go_meet
              case rel =>
                first
                | exact LEnd.filled zb hB1 (Nat.le_refl _) ho (fun y hy => by have := hG y hy; first | exact this | (simp at this; omega)) (fun q => by have q1 := hG _ q; simp at q1; omega)
                | exact LEnd.last hB1 ho hG
          obtain ⟨tb, a1, c1, G, rfl, HTB, HOW2, HGW, htbz, HTG, HBC⟩ := hcut
          clear HMK HOW s0 s1 s2
          have hzc := HBC.size
          have t0 := HTB.out.c0
          have t1 := HTB.out.c1
          have t2 : wc.cell? ⟨tb, 1 + 1, none⟩ = _ := HTB.out.c2
          have ltb := HTB.out.lt
          have HBRC := hid (HBZ.out.trans (HBC.mono HBZ.out.size))
          have HSO : Hid (D.rd (fun y => w.heap.size + 1 ≤ y ∧ y < wc.heap.size) wc (.slice (some ⟨b, off, none⟩) ol.length c) (Lit.sd ol)) := D.rd_bothL _ _ (D.rd_keep (Keeps.all HBRC.out) _ _ HRO.out)
          have HRX : Hid (CellsRd (fun y => w.heap.size + 1 ≤ y ∧ y < wc.heap.size) wc [.bool ts[i].pos, .string ts[i].atom.name, .slice a1 ts[i].atom.args.length c1] (Lit.cs ts[i])) := by
            rw [Hid, Lit.cs_eq]
            have hlt' := D.own_lt _ _ _ HOW2.out
            exact ⟨by rw [D.rd], D.rd_str hnl, D.rd_mono (fun y hy => ⟨by have := HGW.out y hy; omega, hlt' y hy⟩) _ _ (D.own_rd _ _ _ HOW2.out), trivial⟩
          obtain ⟨vs1, hl1, hR1, hc1⟩ := Lit.piece HSO.out 0 k (by omega)
          obtain ⟨vs2, hl2, hR2, hc2⟩ := Lit.piece HSO.out k (ol.length - k) (by omega)
          rw [List.drop_zero] at hR1
          have HL1 := hid hl1
          have HL2 := hid hl2
          have HR1 := hid hR1
          have HR2 := hid hR2
          have HC1 := hid hc1
          have HC2 := hid hc2
          obtain ⟨op, hpa, hop⟩ : ∃ op, (if c = k then some (⟨b, off, none⟩ : Addr) else some ⟨b, off + k * 3, none⟩) = some ⟨b, op, none⟩ ∧ (k < ol.length → op = off + k * 3) := by
            by_cases hck : c = k
            · exact ⟨off, by rw [if_pos hck], fun h => absurd h (by omega)⟩
            · exact ⟨off + k * 3, by rw [if_neg hck], fun _ => rfl⟩
          have HOP := hid hop
          have hkS : (k : Int) ≤ (ol.length : Int) := by omega
          have hkC : (k : Int) ≤ (c : Int) := by omega
          have hnC : (ol.length : Int) ≤ (c : Int) := by omega
          have hbc : b < wc.heap.size := by have := HBRC.out.size; omega
          have hS0 : wc.cell? ⟨tb, 0, none⟩ = some (.bool ts[i].pos) ∧ wc.cell? ⟨tb, 1, none⟩ = some (.string ts[i].atom.name) ∧ wc.cell? ⟨tb, 1 + 1, none⟩ = some (.slice a1 ts[i].atom.args.length c1) := ⟨t0, t1, t2⟩
          clear hl1 hl2 hR1 hR2 hc1 hc2 hop
          go_wp2_with fail
          go_region_held3 (fun w' => w'.cell? ⟨tb, 0, none⟩ = some (.bool ts[i].pos) ∧ w'.cell? ⟨tb, 1, none⟩ = some (.string ts[i].atom.name) ∧ w'.cell? ⟨tb, 1 + 1, none⟩ = some (.slice a1 ts[i].atom.args.length c1))
            (first | exact hS0 | exact hS3 | exact hS2 | exact hS1 | assumption | exact ⟨cell_alloc hS1.1 _, cell_alloc hS1.2.1 _, cell_alloc hS1.2.2 _⟩ | exact ⟨cell_alloc hS0.1 _, cell_alloc hS0.2.1 _, cell_alloc hS0.2.2 _⟩ | exact ⟨cell_alloc (cell_alloc hS0.1 _) _, cell_alloc (cell_alloc hS0.2.1 _) _, cell_alloc (cell_alloc hS0.2.2 _) _⟩)
            (first
              | (refine step_append_rv (S := (fun y => w.heap.size + 1 ≤ y ∧ y < wc.heap.size)) (B := wc.heap.size) (ds := []) (n := 0) (b := b) (off := off) (k := k) (news := vs1) Tryz.underlying26 infoLitI rfl (by decide) (by decide) rfl _ _ (by rfl) (by rfl) (by rfl) (by first | exact (Rv.made 52 3 (w := wc) rfl (Nat.le_refl _)).keep (Below.refl _ _).drew | exact ((Rv.made 52 3 (w := wc) rfl (Nat.le_refl _)).keep ((Below.refl _ _).alloc (Nat.le_refl _) _)).keep (Below.refl _ _).drew | exact (Rv.made 52 3 (w := wc.alloc (.cells #[.bool ts[i].pos, .string ts[i].atom.name, .slice a1 ts[i].atom.args.length c1] 52)) (by simp) (by simp)).keep (Below.refl _ _).drew) (fun y hy q => by (have h1 := Option.some.inj hy); (have h2 := q.2); simp at h1; omega) HL1.out (fun j u hj => (((by first | exact ((Below.refl _ _).alloc (Nat.le_refl _) _).drew | exact (((Below.refl wc.heap.size wc).alloc (Nat.le_refl _) _).alloc (by rw [World.size_alloc]; exact Nat.le_succ _) _).drew) : Below wc.heap.size wc _).cell (p := ⟨b, off + j, none⟩) hbc).trans (by have := HC1.out j u hj; rwa [Nat.zero_mul, Nat.add_zero] at this)) (HR1.out.keep (Keeps.all ((by first | exact ((Below.refl _ _).alloc (Nat.le_refl _) _).drew | exact (((Below.refl wc.heap.size wc).alloc (Nat.le_refl _) _).alloc (by rw [World.size_alloc]; exact Nat.le_succ _) _).drew) : Below wc.heap.size wc _))) (by omega) (by show wc.heap.size ≤ (World.heap _).size; simp; try omega) ?_; intro v1 w1 hr1 hg1 hgo1; have hb1 : Below wc.heap.size wc w1 := below_grown (by first | exact ((Below.refl _ _).alloc (Nat.le_refl _) _).drew | exact (((Below.refl wc.heap.size wc).alloc (Nat.le_refl _) _).alloc (by rw [World.size_alloc]; exact Nat.le_succ _) _).drew) hg1 (by show wc.heap.size ≤ (World.heap _).size; simp; try omega) (fun y hy => by (have h1 := Option.some.inj hy); simp at h1; omega); (first | (have hit : ∀ j u, ([.bool ts[i].pos, .string ts[i].atom.name, .slice a1 ts[i].atom.args.length c1] : List Value)[j]? = some u → w1.cell? ⟨wc.heap.size + 1, j, none⟩ = some u := fun j u hj => ((bcellG hg1).1 (wc.heap.size + 1) j (by show _ < (World.heap _).size; simp) (fun e => by (have h1 := Option.some.inj e); simp at h1; try omega)).trans ((itemO2 wc _ #[.bool ts[i].pos, .string ts[i].atom.name, .slice a1 ts[i].atom.args.length c1] _ j).trans (by simpa using hj))) | (have hit : ∀ j u, ([.bool ts[i].pos, .string ts[i].atom.name, .slice a1 ts[i].atom.args.length c1] : List Value)[j]? = some u → w1.cell? ⟨wc.heap.size, j, none⟩ = some u := fun j u hj => ((bcellG hg1).1 wc.heap.size j (by show _ < (World.heap _).size; simp; omega) (fun e => by (have h1 := Option.some.inj e); simp at h1; try omega)).trans ((itemO3 wc _ #[.bool ts[i].pos, .string ts[i].atom.name, .slice a1 ts[i].atom.args.length c1] _ j).trans (by simpa using hj))) | skip); have hS1 : w1.cell? ⟨tb, 0, none⟩ = some (.bool ts[i].pos) ∧ w1.cell? ⟨tb, 1, none⟩ = some (.string ts[i].atom.name) ∧ w1.cell? ⟨tb, 1 + 1, none⟩ = some (.slice a1 ts[i].atom.args.length c1) := ⟨(hb1.cell (p := ⟨tb, 0, none⟩) ltb).trans t0, (hb1.cell (p := ⟨tb, 1, none⟩) ltb).trans t1, (hb1.cell (p := ⟨tb, 1 + 1, none⟩) ltb).trans t2⟩)
              | (refine step_append_rv (S := (fun y => w.heap.size + 1 ≤ y ∧ y < wc.heap.size)) (B := wc.heap.size) (b := b) (off := op) (k := ol.length - k) (news := vs2) Tryz.underlying26 infoLitI rfl (by decide) (by decide) rfl _ _ (by rfl) (by rfl) (by rfl) hr2 (fun y hy q => by (have h1 := (hr2.lt y hy).1); (have h2 := q.2); omega) HL2.out (fun j u hj => by (have hkl : k < ol.length := by (have h1 := (List.getElem?_eq_some_iff.1 hj).1); rw [HL2.out] at h1; omega); rw [HOP.out hkl]; exact (hb2.cell (p := ⟨b, off + k * 3 + j, none⟩) hbc).trans (HC2.out j u hj)) (HR2.out.keep (Keeps.all hb2)) (by omega) hb2.size ?_; intro v3 w3 hr3 hg3 hgo3; have hb3 : Below wc.heap.size wc w3 := below_grown hb2 hg3 hb2.size (fun y hy => (hr2.lt y hy).1); have hS3 : w3.cell? ⟨tb, 0, none⟩ = some (.bool ts[i].pos) ∧ w3.cell? ⟨tb, 1, none⟩ = some (.string ts[i].atom.name) ∧ w3.cell? ⟨tb, 1 + 1, none⟩ = some (.slice a1 ts[i].atom.args.length c1) := ⟨(hb3.cell (p := ⟨tb, 0, none⟩) ltb).trans t0, (hb3.cell (p := ⟨tb, 1, none⟩) ltb).trans t1, (hb3.cell (p := ⟨tb, 1 + 1, none⟩) ltb).trans t2⟩)
              | (refine step_append_rv (S := (fun y => w.heap.size + 1 ≤ y ∧ y < wc.heap.size)) (B := wc.heap.size) (off := 0) (k := 1) (news := [.bool ts[i].pos, .string ts[i].atom.name, .slice a1 ts[i].atom.args.length c1]) Tryz.underlying26 infoLitI rfl (by decide) (by decide) rfl _ _ (by rfl) (by rfl) (by rfl) (by first | exact hr1 | exact hr1.keep ((Below.refl _ _).alloc (Nat.le_refl _) _)) (fun y hy q => by (have h1 := (hr1.lt y hy).1); (have h2 := q.2); omega) rfl (by first | exact fun j u hj => by rw [Nat.zero_add]; exact hit j u hj | (intro j u hj; rw [Nat.zero_add, box1]; simpa using hj)) (HRX.out.keep (Keeps.all (by first | exact hb1 | exact hb1.alloc hb1.size _))) (by omega) (by first | exact hb1.size | (rw [World.size_alloc]; exact Nat.le_succ_of_le hb1.size)) ?_; intro v2 w2 hr2 hg2 hgo2; have hb2 : Below wc.heap.size wc w2 := below_grown (by first | exact hb1 | exact hb1.alloc hb1.size _) hg2 (by first | exact hb1.size | (rw [World.size_alloc]; exact Nat.le_succ_of_le hb1.size)) (fun y hy => (hr1.lt y hy).1); have hS2 : w2.cell? ⟨tb, 0, none⟩ = some (.bool ts[i].pos) ∧ w2.cell? ⟨tb, 1, none⟩ = some (.string ts[i].atom.name) ∧ w2.cell? ⟨tb, 1 + 1, none⟩ = some (.slice a1 ts[i].atom.args.length c1) := ⟨(hb2.cell (p := ⟨tb, 0, none⟩) ltb).trans t0, (hb2.cell (p := ⟨tb, 1, none⟩) ltb).trans t1, (hb2.cell (p := ⟨tb, 1 + 1, none⟩) ltb).trans t2⟩))
          all_goals
            obtain ⟨ol', HOL'⟩ : ∃ z, Hid (insL ol ts[i] = z) := ⟨_, hid rfl⟩
            have hln' : 0 + k + 1 + (ol.length - k) = ol'.length := by rw [← HOL'.out, HIK.out]; simp; omega
            have hcs' : [] ++ Lit.css (ol.take k) ++ Lit.cs ts[i] ++ Lit.css ((ol.drop k).take (ol.length - k)) = Lit.css ol' := by
              have htk : (ol.drop k).take (ol.length - k) = ol.drop k := List.take_of_length_le (by rw [List.length_drop]; omega)
              rw [← HOL'.out, HIK.out, htk]
              simp [Lit.css_flat, List.flatMap_append]
            rw [hln', hcs'] at hr3
            have hr4 := hr3
            obtain ⟨vs3, h30, -⟩ := hr4
            obtain ⟨g3, cp3, rfl, -⟩ := h30.form (by omega)
            have HD3 := hid ((hr3.mono (S' := fun y => w.heap.size + 1 ≤ y) (fun y q => q.1)).rd (by decide) (fun y hy => by have := (hr3.lt y hy).1; omega))
            rw [← Lit.sd_css] at HD3
            have hg3l := (hr3.lt g3 rfl).2
            have HOLN : Hid (ol' = makeL (ts.take (i + 1))) := by rw [Hid, HIN.out, HOL'.out]
            have HBN3 : Hid (Below (w.heap.size + 1) w0 w3) := HB.out.trans ((HBRC.out.trans (hb3.mono HBRC.out.size)).mono (by omega))
            have hz3 := hb3.size
            have hz4 := HBRC.out.size
            clear hr3 h30 hb3 hS3 hS2 hS1 hS0 hb1 hb2 hr1 hr2 hg1 hg2 hg3 hgo1 hgo2 hgo3 hln' hcs' hpa t0 t1 t2 ltb
            go_wp2_with fail
            go_roundw
            case rel => exact ⟨i + 1, g3, 0, cp3, ol', by omega, rfl, by go_num, HOLN, HD3, hg3l, by omega, HBN3⟩
            case measure => simp [intOf]; omega
    · obtain rfl : i = ts.length := by omega
      have HF : Hid (ol = makeL ts) := by have := HOL.out; rwa [List.take_length] at this
      have r0 : wr.cell? ⟨w.heap.size, 0, none⟩ = some (.slice none 0 0) := (HB.out.cell (p := ⟨w.heap.size, 0, none⟩) (by show w.heap.size < w.heap.size + 1; omega)).trans rb.c0
      have r1 : wr.frozen? ⟨w.heap.size, 0, none⟩ = false := (HB.out.frozen (p := ⟨w.heap.size, 0, none⟩) (by show w.heap.size < w.heap.size + 1; omega)).trans rf
      go_wp2_with fail
      refine bodyPost_ret (v := .agg #[.slice (some ⟨b, off, none⟩) ol.length c]) (by simp [results, Tryz.results42, go_sem, r0]) rfl ?_
      refine ⟨_, rfl, ?_, HBW.out.setCell (by simp) _⟩
      rw [← HF.out]
      exact D.rd_mono (fun y (hy : w.heap.size + 1 ≤ y) => (by omega : w.heap.size ≤ y)) _ _ (D.rd_keep ((Keeps.refl _ _).setCell (fun (q : w.heap.size + 1 ≤ w.heap.size) _ => by omega) _) _ _ HRO.out)
end Go.Proofs.YtooocakkjdhfiaaGreatDoor
