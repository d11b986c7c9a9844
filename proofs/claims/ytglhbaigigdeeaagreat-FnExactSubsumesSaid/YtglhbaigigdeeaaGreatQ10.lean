/- Several texts in one file. -/
import Derived.Test.YtglhbaigigdeeaaGreatQ09
import Derived.Test.YtglhbaigigdeeaaGreatQ05
import Derived.Test.YtglhbaigigdeeaaGreatRows
import Derived.Test.YtglhbaigigdeeaaGreatQ01
import Derived.Test.YtglhbaigigdeeaaGreatQ02
import Derived.WalkSpells
import Derived.WalkLawsBesides
/- What a walk over the entries of a match needs. -/
namespace Go.Proofs.YtglhbaigigdeeaaGreat
set_option maxRecDepth 100000
open Go.RowKit

/-- the entries that were handed out, but those of a name to itself -/
def pk (l : List Bnd) (done : List Nat) : List Bnd := (done.filterMap fun i => l[i]?).filter moved
theorem pk_snoc {l : List Bnd} {done : List Nat} {i : Nat} (h : i < l.length) : pk l (done ++ [i]) = pk l done ++ if moved l[i] = true then [l[i]] else [] := by
  rw [pk, pk, List.filterMap_append, List.filter_append]
  simp [List.getElem?_eq_getElem h, List.filter_cons]
theorem pk_length (l : List Bnd) (done : List Nat) : (pk l done).length ≤ done.length :=
  Nat.le_trans (List.length_filter_le _ _) (List.length_filterMap_le _ _)
theorem range_pick : ∀ (l : List Bnd), (List.range l.length).filterMap (fun i => l[i]?) = l
  | [] => rfl
  | b :: l => by
    rw [List.length_cons, List.range_succ_eq_map, List.filterMap_cons]
    simp only [List.getElem?_cons_zero, List.filterMap_map]
    congr 1
    have := range_pick l
    conv => rhs; rw [← this]
    rfl
theorem nodup_perm {n : Nat} {l : List Nat} (hn : l.Nodup) (hl : ∀ i ∈ l, i < n) (hc : l.length = n) : l.Perm (List.range n) := by
  rw [List.perm_ext_iff_of_nodup hn List.nodup_range]
  intro a
  rw [List.mem_range]
  exact ⟨hl a, nodup_lt hn hl hc a⟩
theorem pk_all {l : List Bnd} {done : List Nat} (hn : done.Nodup) (hl : ∀ i ∈ done, i < l.length) (hc : done.length = l.length) : (pk l done).Perm (l.filter moved) := by
  have h1 := (nodup_perm hn hl hc).filterMap (fun i => l[i]?)
  rw [range_pick] at h1
  exact h1.filter moved
theorem sorted_pairs {l ys : List Bnd} (ho : Once l) (hp : ys.Perm (l.filter moved)) (hs : ys.Pairwise fun x y => Op.bytesLess y.var.toList x.var.toList = false) : ys = pairsB l := by
  refine asc_unique ?_ (pairsB_asc (fun h k => blt_trans h k) ho) (hp.trans (pairsB_perm l).symm)
  have hn : ys.Pairwise fun x y => x.var ≠ y.var := by
    have h1 : (l.filter moved).Pairwise fun x y => x.var ≠ y.var := by
      have : l.Pairwise fun x y => x.var ≠ y.var := by rw [Once, List.Nodup, List.pairwise_map] at ho; exact ho
      exact this.sublist List.filter_sublist
    exact hp.symm.pairwise h1 (fun {x y} h => Ne.symm h)
  refine (hs.and hn).imp fun {x y} ⟨h1, h2⟩ => ?_
  exact bl_total h1 fun e => h2 (toList_inj e).symm

/-- what is told behind the step that hands out entry i -/
structure StepB (S : Nat → Prop) (kv : List (ByteArray × Value)) (l : List Bnd) (b r : Nat) (done : List Nat) (w w' : World) (i : Nat) (hi : i < l.length) (xa : Option Addr) (xc : Nat) : Prop where
  lt : i < kv.length
  new : i ∉ done
  it : ItAt w' r b kv.length (done ++ [i])
  grown : w.grownBy w' (some r)
  size : w'.heap.size = w.heap.size
  map : MapIs w' b kv
  term : Tm.at S w (.string l[i].term.name) (.slice xa l[i].term.args.length xc) l[i].term
theorem wpList_nxtB {ops : Array Oper} {rest : List Oper} {o : Oper} {a : Act} {w : World} {Q : Exit → Act → World → Prop} {b : Nat} {kv : List (ByteArray × Value)} {l : List Bnd} {S : Nat → Prop} (hkv : KvRd S w kv l)
    (hg : o.guard = none) (it : Operand) (hop : o.op = Op.next it false) (h : MapIs w b kv) {r : Nat} {done : List Nat} (hr : ItAt w r b kv.length done) (hrb : r ≠ b) (hdn : done.Nodup) (hdl : ∀ i ∈ done, i < kv.length) (hit : a.eval it = .pointer (some ⟨r, 0, none⟩))
    (hDone : done.length = kv.length → wpList Tryz.prog ops Q rest (a.put o.dst (.tuple #[.bool false])) w)
    (hSame : ∀ i (hi : i < l.length) (xa : Option Addr) (xc : Nat) w', StepB S kv l b r done w w' i hi xa xc → Hid (moved l[i] = false) → (l[i].term.name.toList == l[i].var.toList) = true → (l[i].term.name.toList != l[i].var.toList) = false →
      (Instr.entry (.pointer (some ⟨r, 0, none⟩))).run Tryz.prog w' = .ok (.tuple #[.string l[i].var, .agg #[.string l[i].term.name, .slice xa l[i].term.args.length xc]]) w' →
      wpList Tryz.prog ops Q rest (a.put o.dst (.tuple #[.bool true, .string l[i].var, .agg #[.string l[i].term.name, .slice xa l[i].term.args.length xc]])) w')
    (hMore : ∀ i (hi : i < l.length) (xa : Option Addr) (xc : Nat) w', StepB S kv l b r done w w' i hi xa xc → Hid (moved l[i] = true) → (l[i].term.name.toList == l[i].var.toList) = false → (l[i].term.name.toList != l[i].var.toList) = true →
      (Instr.entry (.pointer (some ⟨r, 0, none⟩))).run Tryz.prog w' = .ok (.tuple #[.string l[i].var, .agg #[.string l[i].term.name, .slice xa l[i].term.args.length xc]]) w' →
      wpList Tryz.prog ops Q rest (a.put o.dst (.tuple #[.bool true, .string l[i].var, .agg #[.string l[i].term.name, .slice xa l[i].term.args.length xc]])) w') : wpList Tryz.prog ops Q (o :: rest) a w := by
  refine wpList_nxt hg it hop h hr hrb hdn hdl hit hDone fun i hi w' h1 h2 h3 h4 h5 h6 => ?_
  have hi' : i < l.length := by rw [← hkv.1]; exact hi
  obtain ⟨e1, c0, c1, e2, hx⟩ := hkv.2 i hi hi'
  obtain ⟨rfl, -, xa, xc, rfl⟩ := Tm.at_form hx
  rw [e1, e2] at h6 ⊢
  by_cases he : l[i].term.name = l[i].var
  · exact hSame i hi' xa xc w' ⟨hi, h1, h2, h3, h4, h5, hx⟩ (by simp [Hid, moved, he]) (by rw [he]; simp) (by rw [he]; simp) h6
  · exact hMore i hi' xa xc w' ⟨hi, h1, h2, h3, h4, h5, hx⟩ (by simp [Hid, moved, he]) (toList_ne he) (by rw [bne, toList_ne he]; rfl) h6
theorem Gr.low {w w' : World} {B r : Nat} {e : TypeId} {m : Nat} {v : Value} {n : Nat} {cs : List D} {F : List Nat} (h : Gr w B e m v n cs F) (hg : w.grownBy w' (some r)) (hr : r < B) : Gr w' B e m v n cs F := by
  have hl := h.lt
  obtain ⟨vs, h0, h1, h2, h3⟩ := h
  refine ⟨vs, h0.kept hg ?_, h1.keep ⟨hg.size, fun x hx hlx => hg.block x hlx fun e => by injection e with e; have := h2 x hx; omega⟩, h2, h3⟩
  cases hv : v.ownBlock with
  | none => exact .inl rfl
  | some x => right; intro e; injection e with e; have := (hl x hv).1; omega
theorem ItAt.seen {w : World} {r b n : Nat} {done : List Nat} (h : ItAt w r b n done) : (w.iterSeen r).size = done.length := by
  unfold World.iterSeen
  rw [h]
  simp
theorem next_seen {done : List Nat} {i n : Nat} (h1 : done.Nodup) (h2 : ∀ j ∈ done, j < n) (h3 : i ∉ done) (h4 : i < n) : (done ++ [i]).Nodup ∧ (∀ j ∈ done ++ [i], j < n) := by
  refine ⟨List.nodup_append.2 ⟨h1, by simp, fun a ha b hb => ?_⟩, fun j hj => ?_⟩
  · simp only [List.mem_singleton] at hb
    subst hb
    exact fun e => h3 (e ▸ ha)
  · rcases List.mem_append.1 hj with q | q
    · exact h2 j q
    · rw [List.mem_singleton] at q; subst q; exact h4
end Go.Proofs.YtglhbaigigdeeaaGreat
/- Literals: as data, and how a law measures, copies and compares them. -/
namespace Go.Proofs.YtglhbaigigdeeaaGreat
set_option maxRecDepth 100000
open Go.RowKit Go.ChangeShapes Go.WideShapes

/-- a sign and an atom -/
structure Lit where
  pos : Bool
  atom : Tm
def Lit.cs (x : Lit) : List D := [.bit x.pos, .str x.atom.name, Tm.sd x.atom.args]
def Lit.bulk (x : Lit) : Nat := x.atom.bulk
def Lit.eqb (x y : Lit) : Bool := decide (x.pos = y.pos) && Tm.eqb x.atom y.atom
theorem Lit.eqb_iff (x y : Lit) : Lit.eqb x y = true ↔ x = y := by
  obtain ⟨p, a⟩ := x
  obtain ⟨q, b⟩ := y
  simp [Lit.eqb, Tm.eqb_iff]

/-- 3 cells read as an item -/
def Lit.at (S : Nat → Prop) (w : World) (c0 c1 c2 : Value) (x : Lit) : Prop := D.rd S w c0 (.bit x.pos) ∧ D.rd S w c1 (.str x.atom.name) ∧ D.rd S w c2 (Tm.sd x.atom.args)
theorem Lit.at_keep {S : Nat → Prop} {w w' : World} {c0 c1 c2 : Value} {x : Lit} (hk : Keeps S w w') (h : Lit.at S w c0 c1 c2 x) : Lit.at S w' c0 c1 c2 x :=
  ⟨D.rd_keep hk _ _ h.1, D.rd_keep hk _ _ h.2.1, D.rd_keep hk _ _ h.2.2⟩
theorem Lit.at_mono {S S' : Nat → Prop} {w : World} {c0 c1 c2 : Value} {x : Lit} (hs : ∀ b, S b → S' b) (h : Lit.at S w c0 c1 c2 x) : Lit.at S' w c0 c1 c2 x :=
  ⟨D.rd_mono hs _ _ h.1, D.rd_mono hs _ _ h.2.1, D.rd_mono hs _ _ h.2.2⟩
def Lit.sd (xs : List Lit) : D := slOf Lit.cs xs
theorem Lit.wide : Wide Lit.cs 3 := fun x => by cases x; simp [Lit.cs]
theorem Lit.sd_is (xs : List Lit) : Lit.sd xs = slOf Lit.cs xs := rfl
theorem Lit.sd_form {S : Nat → Prop} {w : World} {v : Value} {xs : List Lit} (h : D.rd S w v (Lit.sd xs)) : ∃ a cap, v = .slice a xs.length cap ∧ xs.length ≤ big ∧ xs.length ≤ cap := slOf_form (Lit.sd_is xs ▸ h)
theorem Lit.at_form {S : Nat → Prop} {w : World} {c0 c1 c2 : Value} {x : Lit} (h : Lit.at S w c0 c1 c2 x) : c0 = .bool x.pos ∧ c1 = .string x.atom.name ∧ (∃ a cap, c2 = .slice a x.atom.args.length cap) :=
  ⟨by have q := h.1; rw [D.rd] at q; first | exact q | exact q.1, by have q := h.2.1; rw [D.rd] at q; first | exact q | exact q.1, by obtain ⟨a, cap, e, _⟩ := Tm.sd_form h.2.2; exact ⟨a, cap, e⟩⟩
theorem Lit.cs_eq (x : Lit) : Lit.cs x = [(.bit x.pos), (.str x.atom.name), (Tm.sd x.atom.args)] := by cases x; simp [Lit.cs]
theorem Lit.sd_get {S : Nat → Prop} {w : World} {a : Option Addr} {n cap : Nat} {xs : List Lit} (h : D.rd S w (.slice a n cap) (Lit.sd xs)) (hne : xs ≠ []) : ∃ b off, a = some ⟨b, off, none⟩ ∧ S b ∧ b < w.heap.size ∧
    ∀ k (hk : k < xs.length), ∃ c0 c1 c2, w.cell? ⟨b, off + k * 3, none⟩ = some c0 ∧ w.cell? ⟨b, off + k * 3 + 1, none⟩ = some c1 ∧ w.cell? ⟨b, off + k * 3 + 2, none⟩ = some c2 ∧ Lit.at S w c0 c1 c2 xs[k] := by
  rw [Lit.sd_is] at h
  obtain ⟨b, off, q0, q1, q2, hr⟩ := slOf_get Lit.wide (by decide) h hne
  refine ⟨b, off, q0, q1, q2, fun k hk => ?_⟩
  obtain ⟨c0, r0, s0⟩ := hr k hk 0 (.bit xs[k].pos) (by rw [Lit.cs_eq]; rfl)
  obtain ⟨c1, r1, s1⟩ := hr k hk 1 (.str xs[k].atom.name) (by rw [Lit.cs_eq]; rfl)
  obtain ⟨c2, r2, s2⟩ := hr k hk 2 (Tm.sd xs[k].atom.args) (by rw [Lit.cs_eq]; rfl)
  exact ⟨c0, c1, c2, by rw [← r0]; congr 2, by rw [← r1]; congr 2, by rw [← r2]; congr 2, s0, s1, s2⟩
def Lit.css (xs : List Lit) : List D := xs.flatMap Lit.cs
theorem Lit.css_flat (xs : List Lit) : Lit.css xs = xs.flatMap Lit.cs := rfl
theorem Lit.css_length (xs : List Lit) : (Lit.css xs).length = xs.length * 3 := by rw [Lit.css_flat]; exact flat_length Lit.wide xs
theorem Lit.css_ne {xs : List Lit} (h : xs ≠ []) : Lit.css xs ≠ [] := by rw [Lit.css_flat]; exact flat_ne Lit.wide (by decide) h
theorem Lit.css_take_succ (xs : List Lit) (k : Nat) (hk : k < xs.length) : Lit.css (xs.take (k + 1)) = Lit.css (xs.take k) ++ [(.bit xs[k].pos), (.str xs[k].atom.name), (Tm.sd xs[k].atom.args)] := by rw [Lit.css_flat, Lit.css_flat, flat_take_succ _ _ hk, Lit.cs_eq]
theorem Lit.sd_css (xs : List Lit) : Lit.sd xs = .sl xs.length (Lit.css xs) := by rw [Lit.sd_is, slOf, Lit.css_flat]
def Lit.bulks : List Lit → Nat
  | [] => 0
  | t :: ts => Lit.bulk t + Lit.bulks ts
def Lit.eqbs : List Lit → List Lit → Bool
  | [], [] => true
  | t :: ts, u :: us => Lit.eqb t u && Lit.eqbs ts us
  | _, _ => false
theorem Lit.eqbs_iff : ∀ ts us : List Lit, Lit.eqbs ts us = true ↔ ts = us
  | [], [] => by simp [Lit.eqbs]
  | [], _ :: _ => by simp [Lit.eqbs]
  | _ :: _, [] => by simp [Lit.eqbs]
  | t :: ts, u :: us => by simp [Lit.eqbs, Lit.eqb_iff, Lit.eqbs_iff ts us]
theorem Lit.bulks_le : ∀ (ts : List Lit) (k : Nat), Lit.bulks (ts.take k) ≤ Lit.bulks ts
  | [], k => by simp
  | t :: ts, 0 => by simp [Lit.bulks]
  | t :: ts, k + 1 => by
    have := Lit.bulks_le ts k
    simp only [List.take_succ_cons, Lit.bulks]; omega
theorem Lit.bulks_take : ∀ (ts : List Lit) (k : Nat) (hk : k < ts.length), Lit.bulks (ts.take (k + 1)) = Lit.bulks (ts.take k) + Lit.bulk ts[k]
  | [], k, hk => absurd hk (by simp)
  | t :: ts, 0, _ => by simp [Lit.bulks]
  | t :: ts, k + 1, hk => by
    have := Lit.bulks_take ts k (by simpa using hk)
    simp only [List.take_succ_cons, Lit.bulks, this, List.getElem_cons_succ]; omega
theorem Lit.bulk_mem {ts : List Lit} {t : Lit} (h : t ∈ ts) : Lit.bulk t ≤ Lit.bulks ts := by
  induction ts with
  | nil => cases h
  | cons a ts ih =>
    rw [Lit.bulks]
    rcases List.mem_cons.1 h with rfl | h
    · omega
    · have := ih h; omega
theorem Lit.eqbs_length {ts us : List Lit} (h : ts.length ≠ us.length) : Lit.eqbs ts us = false := by
  rw [Bool.eq_false_iff]; intro e; exact h (by rw [(Lit.eqbs_iff _ _).1 e])
theorem Lit.eqbs_at {ts us : List Lit} {k : Nat} (h1 : k < ts.length) (h2 : k < us.length) (hn : Lit.eqb ts[k] us[k] = false) : Lit.eqbs ts us = false := by
  rw [Bool.eq_false_iff]; intro e
  have := (Lit.eqbs_iff _ _).1 e
  subst this
  rw [(Lit.eqb_iff _ _).2 rfl] at hn
  exact absurd hn (by simp)
theorem Lit.eqbs_take {ts us : List Lit} {k : Nat} (h1 : k < ts.length) (h2 : k < us.length) (h : ts.take k = us.take k) (hn : Lit.eqb ts[k] us[k] = true) : ts.take (k + 1) = us.take (k + 1) := by
  rw [List.take_succ_eq_append_getElem h1, List.take_succ_eq_append_getElem h2, h, (Lit.eqb_iff _ _).1 hn]
theorem Lit.own0 {S : Nat → Prop} {w w' : World} {c0 c1 c2 : Value} {x : Lit} (_h : Lit.at S w c0 c1 c2 x) : D.own w' (.bool x.pos) (.bit x.pos) [] := by rw [D.own]; exact ⟨rfl, rfl⟩
theorem Lit.own1 {S : Nat → Prop} {w w' : World} {c0 c1 c2 : Value} {x : Lit} (h : Lit.at S w c0 c1 c2 x) : D.own w' (.string x.atom.name) (.str x.atom.name) [] := D.own_str (by have q := h.2.1; rw [D.rd] at q; exact q.2)
def SzLit (x : Lit) : Prop := ∀ (S : Nat → Prop) (c0 c1 c2 : Value) (left : Int) (w : World), Lit.at S w c0 c1 c2 x → 0 ≤ left → left ≤ 1048576 →
  Calls Tryz.prog 21 #[.agg #[c0, c1, c2], .int .i64 left] w fun e w' => e = .returned (.int .i64 (after (Lit.bulk x) left)) ∧ Below w.heap.size w w'
def SzLitS (ts : List Lit) : Prop := ∀ (S : Nat → Prop) (v : Value) (left : Int) (w : World), D.rd S w v (Lit.sd ts) → 0 ≤ left → left ≤ 1048576 →
  Calls Tryz.prog 5 #[v, .int .i64 left] w fun e w' => e = .returned (.int .i64 (after (ts.length + Lit.bulks ts) left)) ∧ Below w.heap.size w w'
def MadeLit (x : Lit) (w : World) (e : Ending) (w' : World) : Prop := ∃ v2 F2, e = .returned (.agg #[.bool x.pos, .string x.atom.name, v2]) ∧ D.own w' v2 (Tm.sd x.atom.args) F2 ∧ (∀ y ∈ F2, w.heap.size ≤ y) ∧ Below w.heap.size w w'
def ToLit (x : Lit) : Prop := ∀ (S : Nat → Prop) (c0 c1 c2 : Value) (w : World), Lit.at S w c0 c1 c2 x → Lit.bulk x ≤ 1048576 → Calls Tryz.prog 25 #[.agg #[c0, c1, c2]] w (MadeLit x w)
def MadeLitS (ts : List Lit) (w : World) (e : Ending) (w' : World) : Prop := ∃ v F, e = .returned v ∧ D.own w' v (Lit.sd ts) F ∧ (∀ x ∈ F, w.heap.size ≤ x) ∧ Below w.heap.size w w'
def ToLitS (ts : List Lit) : Prop := ∀ (S : Nat → Prop) (v : Value) (w : World), D.rd S w v (Lit.sd ts) → ts.length + Lit.bulks ts ≤ 1048576 → Calls Tryz.prog 7 #[v] w (MadeLitS ts w)
def EqLit (t : Lit) : Prop := ∀ (u : Lit) (S : Nat → Prop) (c0 c1 c2 d0 d1 d2 : Value) (w : World), Lit.at S w c0 c1 c2 t → Lit.at S w d0 d1 d2 u → Calls Tryz.prog 31 #[.agg #[c0, c1, c2], .agg #[d0, d1, d2]] w fun e w' => e = .returned (.bool (Lit.eqb t u)) ∧ Below w.heap.size w w'
def EqLitS (ts : List Lit) : Prop := ∀ (us : List Lit) (S : Nat → Prop) (v u : Value) (w : World), D.rd S w v (Lit.sd ts) → D.rd S w u (Lit.sd us) → Calls Tryz.prog 10 #[v, u] w fun e w' => e = .returned (.bool (Lit.eqbs ts us)) ∧ Below w.heap.size w w'
set_option maxHeartbeats 400000 in
theorem szLitS_of (ts : List Lit) (h : ∀ t ∈ ts, SzLit t) : SzLitS ts := by
  intro S v left w hr h0 h1
  obtain ⟨a, cap, rfl, hlen, hcap⟩ := Lit.sd_form hr
  unfold big at hlen
  by_cases hl : left < ts.length
  · have hx : left < (ts.length + Lit.bulks ts : Nat) := by omega
    have HX := hid (after_neg hx); clear hx
    go_enter Tryz.func5, Tryz.ntmps5
    go_wp2_with fail
    go_ret
    exact ⟨ret_i64 HX.out.symm, Below.refl _ _⟩
  · go_enter Tryz.func5, Tryz.ntmps5
    go_wp2_with fail
    go_loopw [1, 5] (fun l i wr => ∃ (k : Nat) (x : Int), k ≤ ts.length ∧ i = .int .i64 k ∧ l = .int .i64 x ∧ 0 ≤ x ∧ x ≤ 1048576 ∧ Hid (x = left - (ts.length + Lit.bulks (ts.take k) : Nat)) ∧ Below w.heap.size w wr) (fun _ i _ => ts.length - (intOf i).toNat)
    case atStart => exact ⟨0, _, Nat.zero_le _, rfl, rfl, by omega, by omega, by simp [Hid, Lit.bulks], Below.refl _ _⟩
    case round =>
      obtain ⟨k, x, hk, rfl, rfl, hx0, hx1, HX, hb⟩ := hrel
      by_cases hlt : k < ts.length
      · have hne : ts ≠ [] := by intro e; subst e; simp at hlt
        obtain ⟨b, off, rfl, hS, hbl, hrr⟩ := Lit.sd_get hr hne
        obtain ⟨c0, c1, c2, q0, q1, q2, qx⟩ := hrr k hlt
        have q0' := (hb.cell (p := ⟨b, off + k * 3, none⟩) hbl).trans q0
        have q1' := (hb.cell (p := ⟨b, off + k * 3 + 1, none⟩) hbl).trans q1
        have q2' := (hb.cell (p := ⟨b, off + k * 3 + 2, none⟩) hbl).trans q2
        have qx' := Lit.at_keep (Keeps.all hb) qx
        have hmem := h ts[k] (List.getElem_mem hlt)
        have hstep := hid (Lit.bulks_take ts k hlt)
        have hstle := hid (Lit.bulks_le ts (k + 1))
        clear q0 q1 q2 qx hr hrr
        go_wp2_with fail
        refine (hmem S _ _ _ _ _ qx' hx0 hx1).mono ?_
        rintro e w' ⟨rfl, hb'⟩
        by_cases hl2 : x < Lit.bulk ts[k]
        · have HZ : Hid (after (ts.length + Lit.bulks ts) left = -1) := after_neg (by have := HX.out; have := hstep.out; have := hstle.out; omega)
          rw [after_neg hl2]
          go_wp2_with fail
          go_ret
          exact ⟨ret_i64 HZ.out.symm, hb.trans (hb'.mono hb.size)⟩
        · have hge : (Lit.bulk ts[k] : Int) ≤ x := by omega
          have HZ : Hid (x - (Lit.bulk ts[k] : Nat) = left - (ts.length + Lit.bulks (ts.take (k + 1)) : Nat)) := by
            have := HX.out; have := hstep.out; show (_ : Int) = _; omega
          rw [after_pos hge]
          go_wp2_with fail
          go_roundw
          case rel => exact ⟨k + 1, _, by omega, by go_num, rfl, by omega, by omega, HZ, hb.trans (hb'.mono hb.size)⟩
          case measure => simp [intOf]; omega
      · obtain rfl : k = ts.length := by omega
        have HY : Hid (x = after (ts.length + Lit.bulks ts) left) := by
          have h := HX.out
          rw [List.take_length] at h
          rw [after_pos (by omega)]; exact h
        go_wp2_with fail
        go_ret
        exact ⟨ret_i64 HY.out, hb⟩
theorem Lit.sd_own_form {w : World} {v : Value} {ts : List Lit} {F : List Nat} (h : D.own w v (Lit.sd ts) F) : ∃ a cap, v = .slice a ts.length cap := by
  rw [Lit.sd_css, D.own] at h
  obtain ⟨a, cap, e, _⟩ := h
  exact ⟨a, cap, e⟩
theorem infoLiteral : (Tryz.prog.info? 58).map (fun i => (i.zero, i.size, i.bytes)) = some (some (.agg #[.bool false, .string ByteArray.empty, .slice none 0 0]), 3, 48) := by kernel_rfl
set_option maxHeartbeats 400000 in
theorem toLitS_of (ts : List Lit) (h : ∀ t ∈ ts, ToLit t) : ToLitS ts := by
  intro S v w hr hbk
  obtain ⟨a, cap, rfl, hlen, hcap⟩ := Lit.sd_form hr
  have hmk := run_mk (P := Tryz.prog) Tryz.underlying24 infoLiteral ts.length (by omega) hlen
  unfold big at hlen
  go_enter Tryz.func7, Tryz.ntmps7
  go_wp2_with fail
  go_loopw [4] (fun i wr => ∃ (k : Nat) (F : List Nat), k ≤ ts.length ∧ i = .int .i64 k ∧ Filled wr w.heap.size 58 (ts.length * 3) (Lit.css (ts.take k)) F ∧ (∀ x ∈ F, w.heap.size < x) ∧ Below w.heap.size w wr) (fun i _ => ts.length - (intOf i).toNat)
  case atStart =>
    refine ⟨0, [], Nat.zero_le _, rfl, ?_, by simp, (Below.refl _ _).alloc (Nat.le_refl _) _⟩
    have := Filled.made w (madeCells #[Value.bool false, .string ByteArray.empty, .slice none 0 0] (ts.length * 3)) 58
    rw [size_madeCells] at this
    simpa [Lit.css] using this
  case round =>
    obtain ⟨k, F, hk, rfl, hfl, hF, hb⟩ := hrel
    by_cases hlt : k < ts.length
    · have hne : ts ≠ [] := by intro e; subst e; simp at hlt
      obtain ⟨b, off, rfl, hS, hbl, hrr⟩ := Lit.sd_get hr hne
      obtain ⟨c0, c1, c2, q0, q1, q2, qx⟩ := hrr k hlt
      have q0' := (hb.cell (p := ⟨b, off + k * 3, none⟩) hbl).trans q0
      have q1' := (hb.cell (p := ⟨b, off + k * 3 + 1, none⟩) hbl).trans q1
      have q2' := (hb.cell (p := ⟨b, off + k * 3 + 2, none⟩) hbl).trans q2
      replace qx := Lit.at_keep (Keeps.all hb) qx
      have hmem := h ts[k] (List.getElem_mem hlt)
      have hbk' := Lit.bulk_mem (List.getElem_mem hlt)
      clear q0 q1 q2 hr hrr
      go_wp2_with fail
      refine (hmem S _ _ _ _ qx (by omega)).mono ?_
      rintro e w1 ⟨v2, G2, rfl, ho2, hG2, hb1⟩
      obtain ⟨a2, ca2, rfl⟩ := Tm.sd_own_form ho2
      have hfl1 := hfl.keep (Keeps.all hb1)
      obtain ⟨x0, hx0⟩ := hfl1.cell (p := k * 3) (by omega)
      obtain ⟨x1, hx1⟩ := hfl1.cell (p := k * 3 + 1) (by omega)
      obtain ⟨x2, hx2⟩ := hfl1.cell (p := k * 3 + 2) (by omega)
      have hf0 := hfl1.free (k * 3)
      have hf1 := hfl1.free (k * 3 + 1)
      have hf2 := hfl1.free (k * 3 + 2)
      go_wp2_with fail
      go_roundw
      case rel =>
        have hB := hb.size
        have hBl := hfl.lt
        have hG2' : w.heap.size ∉ G2 := fun q => by have := hG2 _ q; omega
        refine ⟨k + 1, F ++ (G2), by omega, by go_num, ?_, fun x hx => ?_, (((hb.trans (hb1.mono hB)).setCell (Nat.le_refl _) _).setCell (Nat.le_refl _) _).setCell (Nat.le_refl _) _⟩
        · rw [Lit.css_take_succ ts k hlt]
          have hl : (Lit.css (ts.take k)).length = k * 3 := by rw [Lit.css_length, List.length_take, Nat.min_eq_left hk]
          have hd2 : ∀ x ∈ F, x ∉ G2 := fun x hx hx' => by have := hG2 x hx'; have := hfl.ltF x hx; omega
          have s0 := hfl1.set (p := k * 3) (v := .bool ts[k].pos) (d := .bit ts[k].pos) (G := []) (by exact hl.symm) (by omega) (Lit.own0 qx) (by simp) (by simp)
          have s1 := s0.set (p := k * 3 + 1) (v := .string ts[k].atom.name) (d := .str ts[k].atom.name) (G := []) (by simp [hl]) (by omega) (Lit.own1 qx) (by simp) (by simp)
          have s2 := s1.set (p := k * 3 + 2) (v := .slice a2 ts[k].atom.args.length ca2) (d := Tm.sd ts[k].atom.args) (G := G2) (by simp [hl]) (by omega) (D.own_keep _ _ _ (((Keeps.refl _ _).setCell (fun q _ => hG2' q) _).setCell (fun q _ => hG2' q) _) ho2) hG2' (by simpa using hd2)
          simpa using s2
        · rcases List.mem_append.1 hx with hx | hx
          · exact hF x hx
          · have := hG2 x hx; omega
      case measure => simp [intOf]; omega
    · obtain rfl : k = ts.length := by omega
      go_wp2_with fail
      go_ret
      rw [List.take_length] at hfl
      by_cases hne : ts = []
      · subst hne
        refine ⟨_, [], rfl, ?_, by simp, hb⟩
        have := D.own_nil (w := wr) (some ⟨w.heap.size, 0, none⟩) 0
        rw [Lit.sd_css]; simpa [Lit.css] using this
      · exact ⟨_, _ :: F, rfl, by rw [Lit.sd_css]; exact hfl.own (Lit.css_ne hne) (by unfold big; omega) (Nat.le_refl _), fun x hx => by rcases List.mem_cons.1 hx with rfl | hx; exact Nat.le_refl _; exact Nat.le_of_lt (hF x hx), hb⟩
set_option maxHeartbeats 400000 in
theorem eqLitS_of (ts : List Lit) (h : ∀ t ∈ ts, EqLit t) : EqLitS ts := by
  intro us S v u w hr hr'
  obtain ⟨a, cap, rfl, hlen, hcap⟩ := Lit.sd_form hr
  obtain ⟨a', cap', rfl, hlen', hcap'⟩ := Lit.sd_form hr'
  unfold big at hlen hlen'
  by_cases hll : ts.length = us.length
  · go_enter Tryz.func10, Tryz.ntmps10
    go_wp2_with fail
    go_loopw [5] (fun i wr => ∃ (k : Nat), k ≤ ts.length ∧ i = .int .i64 k ∧ Hid (ts.take k = us.take k) ∧ Below w.heap.size w wr) (fun i _ => ts.length - (intOf i).toNat)
    case atStart => exact ⟨0, Nat.zero_le _, rfl, by simp [Hid], Below.refl _ _⟩
    case round =>
      obtain ⟨k, hk, rfl, HX, hb⟩ := hrel
      by_cases hlt : k < ts.length
      · have hne : ts ≠ [] := by intro e; subst e; simp at hlt
        have hlt' : k < us.length := by omega
        have hne' : us ≠ [] := by intro e; subst e; simp at hlt'
        obtain ⟨b, off, rfl, hS, hbl, hrr⟩ := Lit.sd_get hr hne
        obtain ⟨b', off', rfl, hS', hbl', hrr'⟩ := Lit.sd_get hr' hne'
        obtain ⟨c0, c1, c2, q0, q1, q2, qx⟩ := hrr k hlt
        obtain ⟨d0, d1, d2, r0, r1, r2, rx⟩ := hrr' k hlt'
        replace q0 := (hb.cell (p := ⟨b, off + k * 3, none⟩) hbl).trans q0
        replace q1 := (hb.cell (p := ⟨b, off + k * 3 + 1, none⟩) hbl).trans q1
        replace q2 := (hb.cell (p := ⟨b, off + k * 3 + 2, none⟩) hbl).trans q2
        replace r0 := (hb.cell (p := ⟨b', off' + k * 3, none⟩) hbl').trans r0
        replace r1 := (hb.cell (p := ⟨b', off' + k * 3 + 1, none⟩) hbl').trans r1
        replace r2 := (hb.cell (p := ⟨b', off' + k * 3 + 2, none⟩) hbl').trans r2
        replace qx := Lit.at_keep (Keeps.all hb) qx
        replace rx := Lit.at_keep (Keeps.all hb) rx
        have hmem := h ts[k] (List.getElem_mem hlt)
        clear hr hrr hr' hrr' 
        go_wp2_with fail
        have hb0 : b < wr.heap.size := Nat.lt_of_lt_of_le hbl hb.size
        have hb0' : b' < wr.heap.size := Nat.lt_of_lt_of_le hbl' hb.size
        refine wp_region_B [fun v _ => v = .slice (some ⟨b, off, none⟩) ts.length cap, fun v _ => v = .int .i64 k, fun v _ => v = .pointer (some ⟨b, off + k * 3, none⟩), fun v _ => v = .agg #[c0, c1, c2], fun v _ => v = .slice (some ⟨b', off', none⟩) us.length cap', fun v _ => v = .int .i64 k, fun v _ => v = .pointer (some ⟨b', off' + k * 3, none⟩), fun v _ => v = .agg #[d0, d1, d2], fun v _ => v = .bool (Lit.eqb ts[k] us[k]), fun v _ => v = .bool (!Lit.eqb ts[k] us[k])] _ (fun V => by simp [putAll, Act.put]; rfl) (by kernel_rfl) (by decide) (by simp) (by kernel_rfl) ?_ ?_ ?_
        · intro F hF
          simp only [List.mem_cons, List.not_mem_nil, or_false] at hF
          rcases hF with rfl | rfl | rfl | rfl | rfl | rfl | rfl | rfl | rfl | rfl
          · exact stable_eq
          · exact stable_eq
          · exact stable_eq
          · exact stable_eq
          · exact stable_eq
          · exact stable_eq
          · exact stable_eq
          · exact stable_eq
          · exact stable_eq
          · exact stable_eq
        · refine ⟨?_, ?_, ?_, ?_, ?_, ?_, ?_, ?_, ?_, ?_, trivial⟩
          · intro V w1 hbR _
            unfold Does
            go_simp
            exact ⟨Below.refl _ _, rfl⟩
          · intro V w1 hbR _
            unfold Does
            go_simp
            exact ⟨Below.refl _ _, rfl⟩
          · intro V w1 hbR ⟨f0, f1, _⟩
            replace f0 : V 0 = .slice (some ⟨b, off, none⟩) ts.length cap := f0
            replace f1 : V 1 = .int .i64 k := f1
            unfold Does
            go_simp
            exact ⟨Below.refl _ _, rfl⟩
          · intro V w1 hbR ⟨f2, _⟩
            replace f2 : V 2 = .pointer (some ⟨b, off + k * 3, none⟩) := f2
            obtain ⟨hc, hf⟩ := bcell hbR
            try simp only [World.size_alloc, World.size_setCell] at hc hf
            unfold Does
            go_simp
            exact ⟨Below.refl _ _, rfl⟩
          · intro V w1 hbR _
            unfold Does
            go_simp
            exact ⟨Below.refl _ _, rfl⟩
          · intro V w1 hbR _
            unfold Does
            go_simp
            exact ⟨Below.refl _ _, rfl⟩
          · intro V w1 hbR ⟨f4, f5, _⟩
            replace f4 : V 4 = .slice (some ⟨b', off', none⟩) us.length cap' := f4
            replace f5 : V 5 = .int .i64 k := f5
            unfold Does
            go_simp
            exact ⟨Below.refl _ _, rfl⟩
          · intro V w1 hbR ⟨f6, _⟩
            replace f6 : V 6 = .pointer (some ⟨b', off' + k * 3, none⟩) := f6
            obtain ⟨hc, hf⟩ := bcell hbR
            try simp only [World.size_alloc, World.size_setCell] at hc hf
            unfold Does
            go_simp
            exact ⟨Below.refl _ _, rfl⟩
          · intro V w1 hbR ⟨f3, f7, _⟩
            replace f3 : V 3 = .agg #[c0, c1, c2] := f3
            replace f7 : V 7 = .agg #[d0, d1, d2] := f7
            obtain ⟨hc, hf⟩ := bcell hbR
            try simp only [World.size_alloc, World.size_setCell] at hc hf
            unfold Does
            go_simp
            refine (hmem us[k] S _ _ _ _ _ _ _ (Lit.at_keep (Keeps.all hbR) qx) (Lit.at_keep (Keeps.all hbR) rx)).mono ?_; rintro e w2 ⟨rfl, hb2⟩; exact ⟨_, rfl, hb2, rfl⟩
          · intro V w1 hbR ⟨f8, _⟩
            replace f8 : V 8 = .bool (Lit.eqb ts[k] us[k]) := f8
            unfold Does
            go_simp
            exact ⟨Below.refl _ _, rfl⟩
        intro V w1 hbR hfR
        obtain ⟨f0, f1, f2, f3, f4, f5, f6, f7, f8, f9, _⟩ := hfR
        replace f0 : V 0 = .slice (some ⟨b, off, none⟩) ts.length cap := f0
        replace f1 : V 1 = .int .i64 k := f1
        replace f2 : V 2 = .pointer (some ⟨b, off + k * 3, none⟩) := f2
        replace f3 : V 3 = .agg #[c0, c1, c2] := f3
        replace f4 : V 4 = .slice (some ⟨b', off', none⟩) us.length cap' := f4
        replace f5 : V 5 = .int .i64 k := f5
        replace f6 : V 6 = .pointer (some ⟨b', off' + k * 3, none⟩) := f6
        replace f7 : V 7 = .agg #[d0, d1, d2] := f7
        replace f8 : V 8 = .bool (Lit.eqb ts[k] us[k]) := f8
        replace f9 : V 9 = .bool (!Lit.eqb ts[k] us[k]) := f9
        simp only [f0, f1, f2, f3, f4, f5, f6, f7, f8, f9]
        clear f0 f1 f2 f3 f4 f5 f6 f7 f8 f9
        by_cases he : Lit.eqb ts[k] us[k] = true
        · have HZ := hid (Lit.eqbs_take hlt hlt' HX.out he)
          rw [he]
          go_wp2_with fail
          go_roundw
          case rel => exact ⟨k + 1, by omega, by go_num, HZ, hb.trans (hbR.mono hb.size)⟩
          case measure => simp [intOf]; omega
        · have he' : Lit.eqb ts[k] us[k] = false := by simpa using he
          have HZ := hid (Lit.eqbs_at hlt hlt' he')
          rw [he']
          clear he he'
          go_wp2_with fail
          go_ret
          exact ⟨ret_bool HZ.out.symm, hb.trans (hbR.mono hb.size)⟩
      · obtain rfl : k = ts.length := by omega
        have HY : Hid (Lit.eqbs ts us = true) := by
          have := HX.out
          rw [List.take_length, hll, List.take_length] at this
          rw [Hid, Lit.eqbs_iff]; exact this
        go_wp2_with fail
        go_ret
        exact ⟨ret_bool HY.out.symm, hb⟩
  · have HY := hid (Lit.eqbs_length hll)
    go_enter Tryz.func10, Tryz.ntmps10
    go_wp2_with fail
    go_ret
    exact ⟨ret_bool HY.out.symm, Below.refl _ _⟩

theorem Lit.at_atom {S : Nat → Prop} {w : World} {c0 c1 c2 : Value} {x : Lit} (h : Lit.at S w c0 c1 c2 x) : Tm.at S w c1 c2 x.atom := h.2

set_option maxHeartbeats 400000 in
theorem szLit_any (x : Lit) : SzLit x := by
  intro S c0 c1 c2 left w hr h0 h1
  obtain ⟨rfl, rfl, a, cap, rfl⟩ := Lit.at_form hr
  have hB : Below w.heap.size w (w.alloc (.cells #[.bool x.pos, .string x.atom.name, .slice a x.atom.args.length cap] 52)) := (Below.refl _ _).alloc (Nat.le_refl _) _
  replace hr := Tm.at_keep (Keeps.all hB) (Lit.at_atom hr)
  rw [Lit.bulk]
  go_enter Tryz.func21, Tryz.ntmps21
  go_wp2_with fail
  refine (szTerm_any x.atom _ _ _ _ _ hr h0 h1).mono ?_
  rintro e w' ⟨rfl, hb⟩
  by_cases hl : left < x.atom.bulk
  · have HX := hid (after_neg hl)
    rw [after_neg hl]
    go_wp2_with fail
    go_ret
    exact ⟨ret_i64 HX.out.symm, hB.trans (hb.mono hB.size)⟩
  · have hge : (x.atom.bulk : Int) ≤ left := by omega
    have HX := hid (after_pos hge)
    rw [after_pos hge]
    go_wp2_with fail
    go_ret
    exact ⟨ret_i64 HX.out.symm, hB.trans (hb.mono hB.size)⟩

set_option maxHeartbeats 400000 in
theorem toLit_any (x : Lit) : ToLit x := by
  intro S c0 c1 c2 w hr hbk
  obtain ⟨rfl, rfl, a, cap, rfl⟩ := Lit.at_form hr
  rw [Lit.bulk] at hbk
  replace hr := (Lit.at_atom hr)
  go_enter Tryz.func25, Tryz.ntmps25
  go_wp2_with fail
  refine (toTerm_any x.atom S _ _ _ (Tm.at_keep ?hk hr) hbk).mono ?_
  case hk => exact (((Keeps.refl _ _).alloc _).alloc _).alloc _
  rintro e w1 ⟨v, F, rfl, ho, hF, hb⟩
  obtain ⟨a', cap', rfl⟩ := Tm.sd_own_form ho
  obtain ⟨hc, hf⟩ := bcell hb
  have hz := hb.size
  simp only [World.size_alloc] at hc hf hz hF
  go_wp2_with fail
  refine bodyPost_ret (v := .agg #[.bool x.pos, .string x.atom.name, .slice a' x.atom.args.length cap']) (by simp [results, Tryz.results25, go_sem, hc]) rfl ?_
  refine ⟨_, F, rfl, D.own_keep _ _ _ ?_ ho, fun x hx => by have := hF x hx; omega, ?_⟩
  · exact ((((((Keeps.refl _ _).set_lt hF (by simp) _).set_lt hF (by simp) _).set_lt hF (by simp) _).set_lt hF (by simp) _).set_lt hF (by simp) _)
  · exact (((((((((Below.refl _ _).alloc (Nat.le_refl _) _).alloc (by simp) _).alloc (by simp; omega) _).trans (hb.mono (by simp; omega))).setCell (by simp; omega) _).setCell (by simp; omega) _).setCell (by simp) _).setCell (by simp) _).setCell (by simp) _

/-- the value is a literal that reads as x -/
def IsL (x : Lit) (v : Value) (w : World) : Prop := ∃ v', v = .agg #[.bool x.pos, .string x.atom.name, v'] ∧ Lit.at (fun _ => True) w (.bool x.pos) (.string x.atom.name) v' x
theorem IsL.form {x : Lit} {v : Value} {w : World} (h : IsL x v w) : ∃ a cap, v = .agg #[.bool x.pos, .string x.atom.name, .slice a x.atom.args.length cap] ∧ Lit.at (fun _ => True) w (.bool x.pos) (.string x.atom.name) (.slice a x.atom.args.length cap) x := by
  obtain ⟨v', rfl, h⟩ := h
  obtain ⟨-, -, a, cap, rfl⟩ := Lit.at_form h
  exact ⟨a, cap, rfl, h⟩
theorem IsL.stable {x : Lit} {w : World} : ∀ v w1 w2, Below w.heap.size w w1 → Below w1.heap.size w1 w2 → IsL x v w1 → IsL x v w2 :=
  fun _ _ _ _ hb ⟨v', e, h⟩ => ⟨v', e, Lit.at_keep (Keeps.all hb) h⟩
theorem toLit_is {x : Lit} {S : Nat → Prop} {c0 c1 c2 : Value} {w : World} (h : Lit.at S w c0 c1 c2 x) (hb : x.bulk ≤ 1048576) :
    Calls Tryz.prog 25 #[.agg #[c0, c1, c2]] w (Yields w (IsL x)) :=
  (toLit_any x S c0 c1 c2 w h hb).mono fun _ _ ⟨v, _, he, ho, _, hbl⟩ => ⟨_, he, hbl, v, rfl, by rw [D.rd], D.rd_str (Tm.at_form h.2).2.1, D.rd_mono (fun _ _ => trivial) _ _ (D.own_rd _ _ _ ho)⟩

set_option maxHeartbeats 400000 in
theorem eqLit_any (x : Lit) : EqLit x := by
  intro u S c0 c1 c2 d0 d1 d2 w hr hr'
  obtain ⟨p, t⟩ := x
  obtain ⟨q, u⟩ := u
  obtain ⟨rfl, rfl, a, cap, rfl⟩ := Lit.at_form hr
  obtain ⟨rfl, rfl, a', cap', rfl⟩ := Lit.at_form hr'
  replace hr := Lit.at_atom hr
  replace hr' := Lit.at_atom hr'
  simp only at hr hr' ⊢
  cases p <;> cases q
  case false.true =>
    have HX : Hid (Lit.eqb ⟨false, t⟩ ⟨true, u⟩ = false) := by simp [Hid, Lit.eqb]
    go_enter Tryz.func31, Tryz.ntmps31
    go_wp2_with fail
    go_ret
    exact ⟨ret_bool HX.out.symm, ((Below.refl _ _).alloc (Nat.le_refl _) _).alloc (by simp) _⟩
  case true.false =>
    have HX : Hid (Lit.eqb ⟨true, t⟩ ⟨false, u⟩ = false) := by simp [Hid, Lit.eqb]
    go_enter Tryz.func31, Tryz.ntmps31
    go_wp2_with fail
    go_ret
    exact ⟨ret_bool HX.out.symm, ((Below.refl _ _).alloc (Nat.le_refl _) _).alloc (by simp) _⟩
  all_goals
    first
    | have HX : Hid (Lit.eqb ⟨true, t⟩ ⟨true, u⟩ = Tm.eqb t u) := by simp [Hid, Lit.eqb]
      have HI : Hid (Lit.eqb ⟨true, t⟩ ⟨true, u⟩ = Lit.eqb ⟨true, t⟩ ⟨true, u⟩) := rfl
    | skip
    go_enter Tryz.func31, Tryz.ntmps31
    go_wp2_with fail
    refine (eqTerm_any t u S _ _ _ _ _ (Tm.at_keep (((Keeps.refl _ _).alloc _).alloc _) hr) (Tm.at_keep (((Keeps.refl _ _).alloc _).alloc _) hr')).mono ?_
    rintro e w1 ⟨rfl, hb⟩
    have hb' : Below w.heap.size w w1 := (((Below.refl _ _).alloc (Nat.le_refl _) _).alloc (by simp) _).trans (hb.mono (by simp; omega))
    by_cases he : Tm.eqb t u = true
    all_goals
      first | rw [he] | rw [Bool.eq_false_iff.2 he]
      go_wp2_with fail
      go_ret
      exact ⟨ret_bool (by simp [Lit.eqb, he]), hb'⟩
theorem eqLit_refl {x : Lit} {S : Nat → Prop} {c0 c1 c2 d0 d1 d2 : Value} {w : World} (h : Lit.at S w c0 c1 c2 x) (k : Lit.at S w d0 d1 d2 x) : Calls Tryz.prog 31 #[.agg #[c0, c1, c2], .agg #[d0, d1, d2]] w (Gives w (.bool true)) :=
  (eqLit_any x x S c0 c1 c2 d0 d1 d2 w h k).mono fun _ _ ⟨he, hb⟩ => Gives.mk (by rw [he, (Lit.eqb_iff x x).2 rfl]) hb

theorem szLitS_any (ts : List Lit) : SzLitS ts := szLitS_of ts fun t _ => szLit_any t
theorem toLitS_any (ts : List Lit) : ToLitS ts := toLitS_of ts fun t _ => toLit_any t
theorem eqLitS_any (ts : List Lit) : EqLitS ts := eqLitS_of ts fun t _ => eqLit_any t

theorem cellsLBool : Tryz.prog.cellsOf 4 = 1 := by kernel_rfl
theorem cellsLLiteral : Tryz.prog.cellsOf 52 = 3 := by kernel_rfl
theorem len3 {α : Type} {l : List α} (h : l.length = 3) : ∃ a b c, l = [a, b, c] := by
  match l, h with
  | [a, b, c], _ => exact ⟨a, b, c, rfl⟩
section
variable {H : Type} {enc' : TypeId × Value → H} {w : World}
theorem read_lit : ∀ (fuel : Nat) (cs : List Value) (x : DataW H × List MemPlace), DataW.trod enc' Tryz.prog w 0 (fun _ => true) true fuel 52 cs = some x → ∃ t : Lit, CellsRd (fun _ => True) w cs t.cs := by
  intro fuel cs x h
  obtain ⟨xs, n, rfl, rfl, hl, hlen, hf⟩ := DataW.trod_struct Tryz.underlying52 h
  rw [cellsLLiteral] at hl
  obtain ⟨c0, c1, c2, rfl⟩ := len3 hl
  have h0 := hf 0 _ rfl
  have h1 := hf 1 _ rfl
  have g0 : ∃ x0, xs[0]? = some x0 := ⟨_, List.getElem?_eq_getElem (by rw [hlen]; decide)⟩
  have g1 : ∃ x1, xs[1]? = some x1 := ⟨_, List.getElem?_eq_getElem (by rw [hlen]; decide)⟩
  obtain ⟨x0, g0⟩ := g0
  obtain ⟨x1, g1⟩ := g1
  rw [g0] at h0
  rw [g1] at h1
  obtain ⟨p, hp, -⟩ := DataW.trod_bool Tryz.underlying4 h0
  have hp' : c0 = .bool p := by simpa [cellsLBool] using hp
  obtain ⟨t, ht⟩ := read_term _ _ _ h1
  have ht' : CellsRd (fun _ => True) w [c1, c2] t.cs := by simpa [cellsLBool, cellsLTerm] using ht
  subst hp'
  obtain ⟨m, ts⟩ := t
  refine ⟨⟨p, .node m ts⟩, ?_⟩
  rw [Tm.cs] at ht'
  exact ⟨by rw [D.rd], ht'.1, ht'.2.1, trivial⟩
theorem open_Literal {r : Reach} {b0 : Nat} {v : Value} {d : DataW H} {p : List MemPlace} (hv : Value.okWide Tryz.prog w r b0 52 v) (h : DataW.Trod enc' Tryz.prog w 0 (fun _ => true) true 52 v d p) :
    ∃ c0 c1 c2 t, v = .agg #[c0, c1, c2] ∧ Lit.at (fun _ => True) w c0 c1 c2 t := by
  obtain ⟨cs, rfl, hsz⟩ := okWide_struct Tryz.underlying52 hv
  obtain ⟨fuel, hf⟩ := h
  obtain ⟨t, ht⟩ := read_lit fuel _ _ hf
  have hl : cs.toList.length = 3 := by simpa using hsz.trans cellsLLiteral
  obtain ⟨c0, c1, c2, hc⟩ := len3 hl
  have e : cs = #[c0, c1, c2] := by apply Array.toList_inj.1; rw [hc]
  subst e
  exact ⟨c0, c1, c2, t, rfl, ht.1, ht.2.1, ht.2.2.1⟩
end
end Go.Proofs.YtglhbaigigdeeaaGreat
/- Literals are matched one after the other; what is known may stand in any order: plain. -/
namespace Go.Proofs.YtglhbaigigdeeaaGreat
set_option maxRecDepth 100000
open Go.RowKit

theorem nodup_inj {α : Type} {l : List α} (h : l.Nodup) {i j : Nat} (hi : i < l.length) (hj : j < l.length) (e : l[i] = l[j]) : i = j := by
  rw [List.nodup_iff_pairwise_ne, List.pairwise_iff_getElem] at h
  rcases Nat.lt_trichotomy i j with q | q | q
  · exact absurd e (h i j hi hj q)
  · exact q
  · exact absurd e.symm (h j i hj hi q)
theorem Once.tail {b : Bnd} {l : List Bnd} (h : Once (b :: l)) : Once l ∧ ∀ x ∈ l, x.var ≠ b.var := by
  rw [Once, List.map_cons, List.nodup_cons] at h
  exact ⟨h.2, fun x hx e => h.1 (by rw [← e]; exact List.mem_map.2 ⟨x, hx, rfl⟩)⟩
theorem Once.perm {l k : List Bnd} (h : Once l) (hp : l.Perm k) : Once k := by
  have := (hp.map (fun b : Bnd => b.var)).nodup_iff.1 h
  exact this
theorem lookB_iff : ∀ {l : List Bnd}, Once l → ∀ (n : ByteArray) (t : Tm), lookB l n = some t ↔ (⟨n, t⟩ : Bnd) ∈ l
  | [], _, n, t => by simp [lookB]
  | b :: l, h, n, t => by
    obtain ⟨h1, h2⟩ := h.tail
    rw [lookB, List.mem_cons]
    split
    · rename_i e
      subst e
      constructor
      · intro q; injection q with q; subst q; exact .inl rfl
      · rintro (q | q)
        · rw [← q]
        · exact absurd (show (⟨b.var, t⟩ : Bnd).var = b.var from rfl) (h2 _ q)
    · rename_i e
      rw [lookB_iff h1]
      constructor
      · exact .inr
      · rintro (q | q)
        · exact absurd (by rw [← q]) e
        · exact q
theorem lookB_perm {l k : List Bnd} (hp : l.Perm k) (ho : Once l) (n : ByteArray) : lookB l n = lookB k n := by
  cases h : lookB k n with
  | some t => rw [lookB_iff ho, hp.mem_iff, ← lookB_iff (ho.perm hp)]; exact h
  | none =>
    rw [lookB_none] at h ⊢
    exact fun b hb => h b (hp.mem_iff.1 hb)
/-- the same up to order -/
def PermO : Option (List Bnd) → Option (List Bnd) → Prop
  | none, none => True
  | some l, some k => l.Perm k
  | _, _ => False
theorem PermO.none_l {o : Option (List Bnd)} (h : PermO none o) : o = none := by cases o; rfl; exact h.elim
theorem PermO.some_l {l : List Bnd} {o : Option (List Bnd)} (h : PermO (some l) o) : ∃ k, o = some k ∧ l.Perm k := by
  cases o with
  | none => exact h.elim
  | some k => exact ⟨k, rfl, h⟩
theorem PermO.none_r {o : Option (List Bnd)} (h : PermO o none) : o = none := by cases o; rfl; exact h.elim
theorem PermO.some_r {l : List Bnd} {o : Option (List Bnd)} (h : PermO o (some l)) : ∃ k, o = some k ∧ k.Perm l := by
  cases o with
  | none => exact h.elim
  | some k => exact ⟨k, rfl, h⟩
theorem PermO.trans {a b c : Option (List Bnd)} (h : PermO a b) (k : PermO b c) : PermO a c := by
  cases a <;> cases b <;> cases c <;> first | trivial | exact h.elim | exact k.elim | exact List.Perm.trans h k
theorem PermO.refl (o : Option (List Bnd)) : PermO o o := by cases o; trivial; exact List.Perm.refl _
theorem Tm.mats_perm : ∀ (ts us : List Tm), (∀ a ∈ ts, ∀ u l k, l.Perm k → Once l → PermO (Tm.mat a u l) (Tm.mat a u k)) → ∀ l k, l.Perm k → Once l → PermO (Tm.mats ts us l) (Tm.mats ts us k)
  | [], _, _, l, k, hp, _ => by rw [Tm.mats, Tm.mats]; exact hp
  | _ :: _, [], _, l, k, hp, _ => by rw [Tm.mats, Tm.mats]; exact hp
  | t :: ts, u :: us, ih, l, k, hp, ho => by
    rw [Tm.mats, Tm.mats]
    have h := ih t (by simp) u l k hp ho
    cases hm : Tm.mat t u l with
    | none => rw [hm] at h; rw [h.none_l]; trivial
    | some l1 =>
      rw [hm] at h
      obtain ⟨k1, e, hp1⟩ := h.some_l
      rw [e]
      exact Tm.mats_perm ts us (fun a ha => ih a (by simp [ha])) l1 k1 hp1 (Tm.mat_once t u l l1 ho hm)
theorem Tm.mat_perm (t : Tm) : ∀ u l k, l.Perm k → Once l → PermO (Tm.mat t u l) (Tm.mat t u k) := by
  refine Tm.ind (P := fun t => ∀ u l k, l.Perm k → Once l → PermO (Tm.mat t u l) (Tm.mat t u k)) (fun n ts ih u l k hp ho => ?_) t
  rw [Tm.mat, Tm.mat, lookB_perm hp ho]
  split
  · split
    · split
      · exact hp
      · trivial
    · exact hp.append_right _
  · split
    · exact Tm.mats_perm ts u.args ih l k hp ho
    · trivial

/-- the first literal of a list with which x matches so that what follows does -/
def tryM (f : List Bnd → Option (List Bnd)) (x : Lit) : List Lit → List Bnd → Option (List Bnd)
  | [], _ => none
  | y :: ys, l => if x.pos = y.pos then match Tm.mat x.atom y.atom l with
      | some l' => match f l' with
        | some r => some r
        | none => tryM f x ys l
      | none => tryM f x ys l
    else tryM f x ys l
/-- literals are matched with those of d, one after the other -/
def subM (d : List Lit) : List Lit → List Bnd → Option (List Bnd)
  | [], l => some l
  | x :: xs, l => tryM (subM d xs) x d l
theorem tryM_step {f : List Bnd → Option (List Bnd)} {x : Lit} {ys : List Lit} {l : List Bnd} {k : Nat} (h : k < ys.length) : tryM f x (ys.drop k) l = if x.pos = ys[k].pos then match Tm.mat x.atom ys[k].atom l with
      | some l' => match f l' with
        | some r => some r
        | none => tryM f x (ys.drop (k + 1)) l
      | none => tryM f x (ys.drop (k + 1)) l
    else tryM f x (ys.drop (k + 1)) l := by
  rw [List.drop_eq_getElem_cons h, tryM]
theorem tryM_end {f : List Bnd → Option (List Bnd)} {x : Lit} {ys : List Lit} {l : List Bnd} {k : Nat} (h : ¬ k < ys.length) : tryM f x (ys.drop k) l = none := by
  rw [List.drop_of_length_le (by omega), tryM]
theorem tryM_sign {f : List Bnd → Option (List Bnd)} {x : Lit} {ys : List Lit} {l : List Bnd} {k : Nat} (h : k < ys.length) (hs : ¬ x.pos = ys[k].pos) : tryM f x (ys.drop k) l = tryM f x (ys.drop (k + 1)) l := by
  rw [tryM_step h, if_neg hs]
theorem tryM_no {f : List Bnd → Option (List Bnd)} {x : Lit} {ys : List Lit} {l : List Bnd} {k : Nat} (h : k < ys.length) (hm : Tm.mat x.atom ys[k].atom l = none) : tryM f x (ys.drop k) l = tryM f x (ys.drop (k + 1)) l := by
  rw [tryM_step h, hm]; split <;> rfl
theorem tryM_off {f : List Bnd → Option (List Bnd)} {x : Lit} {ys : List Lit} {l l' : List Bnd} {k : Nat} (h : k < ys.length) (hm : Tm.mat x.atom ys[k].atom l = some l') (hf : f l' = none) : tryM f x (ys.drop k) l = tryM f x (ys.drop (k + 1)) l := by
  rw [tryM_step h, hm]
  simp only [hf, ite_self]
theorem tryM_yes {f : List Bnd → Option (List Bnd)} {x : Lit} {ys : List Lit} {l l' r : List Bnd} {k : Nat} (h : k < ys.length) (hs : x.pos = ys[k].pos) (hm : Tm.mat x.atom ys[k].atom l = some l') (hf : f l' = some r) : tryM f x (ys.drop k) l = some r := by
  rw [tryM_step h, if_pos hs, hm]
  simp only [hf]
theorem tryM_perm {f : List Bnd → Option (List Bnd)} (hf : ∀ l k, l.Perm k → Once l → PermO (f l) (f k)) (x : Lit) : ∀ (ys : List Lit) (l k : List Bnd), l.Perm k → Once l → PermO (tryM f x ys l) (tryM f x ys k)
  | [], _, _, _, _ => trivial
  | y :: ys, l, k, hp, ho => by
    have ih := tryM_perm hf x ys l k hp ho
    rw [tryM, tryM]
    split
    · have h := Tm.mat_perm x.atom y.atom l k hp ho
      cases hm : Tm.mat x.atom y.atom l with
      | none => rw [hm] at h; rw [h.none_l]; exact ih
      | some l1 =>
        rw [hm] at h
        obtain ⟨k1, e, hp1⟩ := h.some_l
        rw [e]
        have h2 := hf l1 k1 hp1 (Tm.mat_once _ _ _ _ ho hm)
        simp only
        cases hn : f l1 with
        | none => rw [hn] at h2; rw [h2.none_l]; exact ih
        | some r =>
          rw [hn] at h2
          obtain ⟨k2, e2, hp2⟩ := h2.some_l
          rw [e2]; exact hp2
    · exact ih
theorem subM_perm (d : List Lit) : ∀ (xs : List Lit) (l k : List Bnd), l.Perm k → Once l → PermO (subM d xs l) (subM d xs k)
  | [], _, _, hp, _ => hp
  | x :: xs, l, k, hp, ho => tryM_perm (subM_perm d xs) x d l k hp ho
/-- what matching keeps, is kept -/
theorem tryM_keeps {P Q : List Bnd → Prop} {f : List Bnd → Option (List Bnd)} (x : Lit) (hf : ∀ l r, P l → f l = some r → Q r) : ∀ (ys : List Lit) (l r : List Bnd), (∀ y ∈ ys, ∀ l', Tm.mat x.atom y.atom l = some l' → P l') → tryM f x ys l = some r → Q r
  | [], _, _, _, h => by cases h
  | y :: ys, l, r, hm, h => by
    have ih := tryM_keeps (P := P) (Q := Q) x hf ys l r (fun y hy => hm y (by simp [hy]))
    rw [tryM] at h
    split at h
    · cases e : Tm.mat x.atom y.atom l with
      | none => rw [e] at h; exact ih h
      | some l1 =>
        rw [e] at h
        simp only at h
        cases e2 : f l1 with
        | none => rw [e2] at h; exact ih h
        | some r1 =>
          rw [e2] at h
          injection h with h
          subst h
          exact hf l1 _ (hm y (by simp) l1 e) e2
    · exact ih h
theorem subM_once (d : List Lit) : ∀ (xs : List Lit) (l r : List Bnd), Once l → subM d xs l = some r → Once r
  | [], l, r, ho, h => by rw [subM] at h; injection h with h; subst h; exact ho
  | x :: xs, l, r, ho, h => tryM_keeps x (fun l r h e => subM_once d xs l r h e) d l r (fun y _ l' e => Tm.mat_once _ _ _ _ ho e) h
theorem subM_all {P : Bnd → Prop} (d : List Lit) : ∀ (xs : List Lit) (l r : List Bnd), (∀ x ∈ xs, ∀ y ∈ d, ∀ n, varName n = true → n.size ≤ x.atom.bulk → ∀ v : Tm, v.bulk ≤ y.atom.bulk → P ⟨n, v⟩) → (∀ b ∈ l, P b) → subM d xs l = some r → ∀ b ∈ r, P b
  | [], l, r, _, hl, h => by rw [subM] at h; injection h with h; subst h; exact hl
  | x :: xs, l, r, hP, hl, h => tryM_keeps (P := fun l => ∀ b ∈ l, P b) (Q := fun l => ∀ b ∈ l, P b) x (fun l r h e => subM_all d xs l r (fun a ha => hP a (by simp [ha])) h e) d l r (fun y hy l' e => Tm.mat_all x.atom y.atom l l' (fun n hn hs v hv => hP x (by simp) y hy n hn hs v hv) hl e) h
def sizesL : List Lit → Nat
  | [] => 0
  | x :: xs => x.atom.size + sizesL xs
theorem subM_length (d : List Lit) : ∀ (xs : List Lit) (l r : List Bnd), subM d xs l = some r → r.length ≤ l.length + sizesL xs
  | [], l, r, h => by rw [subM] at h; injection h with h; subst h; simp [sizesL]
  | x :: xs, l, r, h => by
    rw [sizesL]
    exact tryM_keeps (P := fun l' => l'.length ≤ l.length + x.atom.size) (Q := fun r => r.length ≤ l.length + (x.atom.size + sizesL xs)) x (fun l' r h e => by have := subM_length d xs l' r e; omega) d l r (fun y _ l' e => Tm.mat_length _ _ _ _ e) h
end Go.Proofs.YtglhbaigigdeeaaGreat
/- The program's copy of a match. -/
namespace Go.Proofs.YtglhbaigigdeeaaGreat
set_option maxRecDepth 100000
open Go.RowKit

/-- the entries that were handed out -/
def plk (l : List Bnd) (done : List Nat) : List Bnd := done.filterMap fun i => l[i]?
theorem plk_snoc {l : List Bnd} {done : List Nat} {i : Nat} (h : i < l.length) : plk l (done ++ [i]) = plk l done ++ [l[i]] := by
  rw [plk, List.filterMap_append, plk]
  simp [List.getElem?_eq_getElem h]
theorem plk_all {l : List Bnd} {done : List Nat} (hn : done.Nodup) (hl : ∀ i ∈ done, i < l.length) (hc : done.length = l.length) : (plk l done).Perm l := by
  have h1 := (nodup_perm hn hl hc).filterMap (fun i => l[i]?)
  rwa [range_pick] at h1
theorem plk_fresh {l : List Bnd} {done : List Nat} {i : Nat} (ho : Once l) (h : i < l.length) (hi : i ∉ done) : ∀ b ∈ plk l done, b.var ≠ l[i].var := by
  intro b hb e
  obtain ⟨j, hj, hjb⟩ := List.mem_filterMap.1 hb
  obtain ⟨hjl, rfl⟩ := List.getElem?_eq_some_iff.1 hjb
  have h1 : (l.map fun b => b.var)[j]'(by simpa using hjl) = (l.map fun b => b.var)[i]'(by simpa using h) := by simpa using e
  have := nodup_inj ho (by simpa using hjl) (by simpa using h) h1
  exact hi (this ▸ hj)
theorem Once.snoc {l : List Bnd} {b : Bnd} (h : Once l) (hb : ∀ x ∈ l, x.var ≠ b.var) : Once (l ++ [b]) := by
  rw [Once, List.map_append]
  refine List.nodup_append.2 ⟨h, by simp, fun a ha c hc => ?_⟩
  obtain ⟨x, hx, rfl⟩ := List.mem_map.1 ha
  simp only [List.map_cons, List.map_nil, List.mem_singleton] at hc
  subst hc
  exact hb x hx
theorem wpList_nxtC {ops : Array Oper} {rest : List Oper} {o : Oper} {a : Act} {w : World} {Q : Exit → Act → World → Prop} {b : Nat} {kv : List (ByteArray × Value)} {l : List Bnd} {S : Nat → Prop} (hkv : KvRd S w kv l)
    (hg : o.guard = none) (it : Operand) (hop : o.op = Op.next it false) (h : MapIs w b kv) {r : Nat} {done : List Nat} (hr : ItAt w r b kv.length done) (hrb : r ≠ b) (hdn : done.Nodup) (hdl : ∀ i ∈ done, i < kv.length) (hit : a.eval it = .pointer (some ⟨r, 0, none⟩))
    (hDone : done.length = kv.length → wpList Tryz.prog ops Q rest (a.put o.dst (.tuple #[.bool false])) w)
    (hMore : ∀ i (hi : i < l.length) (xa : Option Addr) (xc : Nat) w', StepB S kv l b r done w w' i hi xa xc →
      (Instr.entry (.pointer (some ⟨r, 0, none⟩))).run Tryz.prog w' = .ok (.tuple #[.string l[i].var, .agg #[.string l[i].term.name, .slice xa l[i].term.args.length xc]]) w' →
      wpList Tryz.prog ops Q rest (a.put o.dst (.tuple #[.bool true, .string l[i].var, .agg #[.string l[i].term.name, .slice xa l[i].term.args.length xc]])) w') : wpList Tryz.prog ops Q (o :: rest) a w := by
  refine wpList_nxt hg it hop h hr hrb hdn hdl hit hDone fun i hi w' h1 h2 h3 h4 h5 h6 => ?_
  have hi' : i < l.length := by rw [← hkv.1]; exact hi
  obtain ⟨e1, c0, c1, e2, hx⟩ := hkv.2 i hi hi'
  obtain ⟨rfl, -, xa, xc, rfl⟩ := Tm.at_form hx
  rw [e1, e2] at h6 ⊢
  exact hMore i hi' xa xc w' ⟨hi, h1, h2, h3, h4, h5, hx⟩ h6

set_option maxHeartbeats 4000000 in
theorem copyMatching_any {l : List Bnd} {kv : List (ByteArray × Value)} {mb : Nat} {S : Nat → Prop} {w : World} (hmap : MapIs w mb kv) (hkv : KvRd S w kv l) (honce : Once l) (hS : ∀ x, S x → x < w.heap.size) (hlen : l.length ≤ 1048576) :
    Calls Tryz.prog 88 #[.map (some mb)] w fun e w' => e = .returned (.map (some w.heap.size)) ∧ (∃ kv' l', l.Perm l' ∧ MapIs w' w.heap.size kv' ∧ KvRd S w' kv' l') ∧ Below w.heap.size w w' := by
  have HM := hid hmap
  have HKV := hid hkv
  have HON := hid honce
  have HS := hid hS
  have hkl := hid hkv.1
  have hml := hmap.lt
  have hkv1 : kv.length ≤ 1048576 := by rw [hkv.1]; exact hlen
  clear hmap hkv honce hS
  have HN0 : Hid (MapIs (w.alloc (.map #[] 0)) w.heap.size []) := MapIs.made w
  have HW0 : Hid (Below w.heap.size w (w.alloc (.map #[] 0))) := (Below.refl _ _).alloc (Nat.le_refl _) _
  have HZ0 : Hid ((w.alloc (.map #[] 0)).heap.size = w.heap.size + 1) := by simp [Hid]
  have hmm := @run_makeMap Tryz.prog
  go_enter Tryz.func88, Tryz.ntmps88
  go_wp2_with (at_range; go_must (refine wpList_rng rfl _ (by rfl) (HM.out.keep (Keeps.all HW0.out)) Tryz.underlying93 (by rfl) ?_; intro hit hmp; rw [HZ0.out]))
  clear hmm
  rw [HZ0.out] at hit
  have HN : Hid (MapIs ((w.alloc (.map #[] 0)).alloc (.mapIter (some mb) kv.length #[] kv.length)) w.heap.size []) := HN0.out.keep ((Keeps.refl _ _).alloc _)
  have HW : Hid (Below w.heap.size w ((w.alloc (.map #[] 0)).alloc (.mapIter (some mb) kv.length #[] kv.length))) := HW0.out.alloc HW0.out.size _
  have HZ : Hid (((w.alloc (.map #[] 0)).alloc (.mapIter (some mb) kv.length #[] kv.length)).heap.size = w.heap.size + 1 + 1) := by simp [Hid]
  clear HW0 HZ0 HN0
  generalize ((w.alloc (.map #[] 0)).alloc (.mapIter (some mb) kv.length #[] kv.length)) = w0 at *
  have HIT := hid hit
  have HMP := hid hmp
  clear hit hmp
  have hz0 := HZ.out
  go_frame
  go_loopw [] (fun wr => ∃ (done : List Nat) (kv' : List (ByteArray × Value)) (l' : List Bnd), Hid (ItAt wr (w.heap.size + 1) mb kv.length done) ∧ Hid done.Nodup ∧ Hid (∀ i ∈ done, i < kv.length) ∧ Hid (MapIs wr mb kv) ∧ Hid (MapIs wr w.heap.size kv') ∧ Hid (KvRd S wr kv' l') ∧ Hid (l' = plk l done) ∧ Hid (Once l') ∧ w.heap.size + 1 + 1 ≤ wr.heap.size ∧ Hid (Below w.heap.size w0 wr)) (fun wr => kv.length - (wr.iterSeen (w.heap.size + 1)).size)
  case atStart => exact ⟨[], [], [], HIT, List.nodup_nil, fun i h => absurd h (by simp), HMP, HN, ⟨rfl, fun i h => absurd h (by simp)⟩, rfl, List.nodup_nil, by omega, Below.refl _ _⟩
  case round =>
    obtain ⟨done, kv', l', HI, HDN, HDL, HMR, HNR, HKN, HL, HO, hz, HB⟩ := hrel
    have hrn : w.heap.size + 1 ≠ mb := by omega
    have HBW := hid (HW.out.trans (HB.out.mono (Nat.le_refl _)))
    have HKR := hid (HKV.out.keep (Keeps.of_below HBW.out (fun x hx _ => HS.out x hx)))
    go_wp2_with (at_next; go_must (refine wpList_nxtC HKR.out rfl _ (by rfl) HMR.out HI.out hrn HDN.out HDL.out (by rfl) (fun hdone => ?_) (fun i hi xa xc w2 hst hen => ?_)))
    · have HPM : Hid (l.Perm l') := by rw [HL.out]; exact (plk_all HDN.out (fun i hi => by rw [← hkl.out]; exact HDL.out i hi) (by rw [hdone]; exact hkl.out)).symm
      go_wp2_with fail
      go_ret
      exact ⟨rfl, ⟨kv', l', HPM.out, HNR.out, HKN.out⟩, HBW.out⟩
    · have HNW : Hid ((done ++ [i]).Nodup ∧ (∀ j ∈ done ++ [i], j < kv.length)) := next_seen HDN.out HDL.out hst.new hst.lt
      have hnl := hid (nodup_le HNW.out.1 HNW.out.2)
      have HFR : Hid (∀ b ∈ l', b.var ≠ l[i].var) := by rw [HL.out]; exact plk_fresh HON.out hi hst.new
      have HLN : Hid (l' ++ [⟨l[i].var, l[i].term⟩] = plk l (done ++ [i])) := by rw [plk_snoc hi, HL.out]; rfl
      have HON2 : Hid (Once (l' ++ [⟨l[i].var, l[i].term⟩])) := HO.out.snoc HFR.out
      have hsz := hst.size
      have HA : Hid (Below w2.heap.size w2 (w2.alloc (.cells #[.string l[i].term.name, .slice xa l[i].term.args.length xc] 56))) := (Below.refl _ _).alloc (Nat.le_refl _) _
      have hne : ¬ (some w.heap.size : Option Nat) = some (w.heap.size + 1) := fun e => by injection e; omega
      have hkS : Keeps S wr w2 := ⟨hst.grown.size, fun x hx hlx => hst.grown.block x hlx fun e => by injection e with e; have := HS.out x hx; omega⟩
      have HTM := hid (Tm.at_keep (Keeps.all HA.out) (Tm.at_keep hkS hst.term))
      have HK2 := hid ((HKN.out.keep hkS).keep (Keeps.all HA.out))
      have HN2 := hid ((HNR.out.grown hst.grown hne).keep (Keeps.all HA.out))
      have HM2 := hid (hst.map.keep (Keeps.all HA.out))
      have HI2 := hid (hst.it.keep (Keeps.all HA.out))
      have HB2 := hid ((HB.out.grown hst.grown (by omega) (fun k hk => by injection hk; omega)).trans (HA.out.mono (by omega)))
      have HIS := hid HI.out.seen
      have hzA : w.heap.size + 1 + 1 ≤ (w2.alloc (.cells #[.string l[i].term.name, .slice xa l[i].term.args.length xc] 56)).heap.size := by rw [World.size_alloc]; omega
      obtain ⟨hf1, -⟩ := HK2.out.look_none (lookB_none.2 HFR.out)
      have HF1 := hid hf1
      have bE : Box (w2.alloc (.cells #[.string l[i].term.name, .slice xa l[i].term.args.length xc] 56)) w2.heap.size [.string l[i].term.name, .slice xa l[i].term.args.length xc] := Box.new _ _ _
      have e0 := bE.c0
      have e1 := bE.c1
      have lE := bE.lt
      clear hst hf1
      obtain ⟨w3, hrun, hm3, hg3, hz3⟩ := HN2.out.run_put (P := Tryz.prog) (T := 93) (HK2.out.once HO.out) Tryz.underlying93 Tryz.underlying9 l[i].var (.agg #[.string l[i].term.name, .slice xa l[i].term.args.length xc])
      go_wp2_with fail
      rw [hrun]
      go_wp2_with fail
      generalize w2.alloc (.cells #[.string l[i].term.name, .slice xa l[i].term.args.length xc] 56) = wa at *
      rw [kvPut_none HF1.out] at hm3
      have hkS3 : Keeps S wa w3 := ⟨hg3.size, fun x hx hlx => hg3.block x hlx fun e => by injection e with e; have := HS.out x hx; omega⟩
      have HI3 := hid (HI2.out.grown hg3 (fun e => by injection e; omega))
      go_roundw
      case rel =>
        refine ⟨done ++ [i], _, _, HI3, HNW.out.1, HNW.out.2, hid (HM2.out.grown hg3 (fun e => by injection e; omega)), hid hm3, hid ((HK2.out.keep hkS3).put_new (Tm.at_keep hkS3 HTM.out)), HLN, HON2, by omega, hid (HB2.out.grown hg3 (by omega) (fun k hk => by injection hk; omega))⟩
      case measure =>
        have hn4 := hnl.out
        rw [HIS.out, HI3.out.seen]
        simp at hn4 ⊢
        omega
end Go.Proofs.YtglhbaigigdeeaaGreat
