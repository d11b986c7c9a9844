/- Formulas: trees, as data, and how a law measures, copies and compares them. -/
import Derived.Test.YthpookgpmnbilaaRows
import Derived.Test.YthpookgpmnbilaaBr
import Derived.Test.YthpookgpmnbilaaBrT
import Derived.Test.YthpookgpmnbilaaSz
import Derived.Test.YthpookgpmnbilaaTo
import Derived.Test.YthpookgpmnbilaaEq
import Derived.WalkSpells
import Derived.WalkLawsBesides
namespace Go.Proofs.Ythpookgpmnbilaa
set_option maxRecDepth 100000
open Go.RowKit Go.ChangeShapes Go.WideShapes

/-- a formula: its form's number, an atom, a name, its parts -/
inductive Fm where
  | node (op : Int) (atom : Tm) (v : ByteArray) (parts : List Fm)
def Fm.op : Fm → Int | .node o _ _ _ => o
def Fm.atom : Fm → Tm | .node _ a _ _ => a
def Fm.v : Fm → ByteArray | .node _ _ v _ => v
def Fm.parts : Fm → List Fm | .node _ _ _ ps => ps

theorem Fm.ind {P : Fm → Prop} (h : ∀ o a v ps, (∀ p ∈ ps, P p) → P (.node o a v ps)) : ∀ t, P t
  | .node o a v ps => h o a v ps (go ps)
where
  go : ∀ ps : List Fm, ∀ p ∈ ps, P p
    | [], _, hm => by cases hm
    | t :: ts, a, hm => by
      cases hm with
      | head => exact Fm.ind h t
      | tail _ hm => exact go ts a hm

mutual
def Fm.cs : Fm → List D
  | .node o a v ps => [.num o, .str a.name, Tm.sd a.args, .str v, .sl ps.length (Fm.css ps)]
def Fm.css : List Fm → List D
  | [] => []
  | t :: ts => Fm.cs t ++ Fm.css ts
end
def Fm.sd (ps : List Fm) : D := .sl ps.length (Fm.css ps)
theorem Fm.css_flat (ts : List Fm) : Fm.css ts = ts.flatMap Fm.cs := by
  induction ts with
  | nil => simp [Fm.css]
  | cons t ts ih => simp [Fm.css, ih]
theorem Fm.sd_slOf (ts : List Fm) : Fm.sd ts = slOf Fm.cs ts := by rw [Fm.sd, slOf, Fm.css_flat]
mutual
def Fm.bulk : Fm → Nat
  | .node _ a v ps => a.bulk + v.size + (ps.length + Fm.bulks ps)
def Fm.bulks : List Fm → Nat
  | [] => 0
  | t :: ts => Fm.bulk t + Fm.bulks ts
end
mutual
def Fm.eqb : Fm → Fm → Bool
  | .node o a v ps, .node p b u qs => decide (o = p) && Tm.eqb a b && decide (v = u) && Fm.eqbs ps qs
def Fm.eqbs : List Fm → List Fm → Bool
  | [], [] => true
  | t :: ts, u :: us => Fm.eqb t u && Fm.eqbs ts us
  | _, _ => false
end
theorem Fm.eqb_iff (t : Fm) : ∀ u, Fm.eqb t u = true ↔ t = u := by
  refine Fm.ind (P := fun t => ∀ u, Fm.eqb t u = true ↔ t = u) (fun o a v ts ih u => ?_) t
  obtain ⟨p, b, u, us⟩ := u
  rw [Fm.eqb]
  have key : ∀ ts us : List Fm, (∀ a ∈ ts, ∀ u, Fm.eqb a u = true ↔ a = u) → (Fm.eqbs ts us = true ↔ ts = us) := by
    intro ts
    induction ts with
    | nil => intro us _; cases us <;> simp [Fm.eqbs]
    | cons t ts iht =>
      intro us h
      cases us with
      | nil => simp [Fm.eqbs]
      | cons u us => simp [Fm.eqbs, h t (by simp) u, iht us fun a ha => h a (by simp [ha])]
  simp [key ts us ih, Tm.eqb_iff, and_assoc]
theorem Fm.eqbs_iff (ts us : List Fm) : Fm.eqbs ts us = true ↔ ts = us := by
  have := Fm.eqb_iff (.node 0 (.node ⟨#[]⟩ []) ⟨#[]⟩ ts) (.node 0 (.node ⟨#[]⟩ []) ⟨#[]⟩ us)
  have ht : Tm.eqb (.node ⟨#[]⟩ []) (.node ⟨#[]⟩ []) = true := (Tm.eqb_iff _ _).2 rfl
  simpa [Fm.eqb, ht] using this

theorem D.own_rd0 {w : World} {v : Value} {d : D} (h : D.own w v d []) : D.rd (fun _ => True) w v d := D.rd_mono (fun _ _ => trivial) _ _ (D.own_rd _ _ _ h)

/-- 5 cells read as an item -/
def Fm.at (S : Nat → Prop) (w : World) (c0 c1 c2 c3 c4 : Value) (x : Fm) : Prop := D.rd S w c0 (.num x.op) ∧ D.rd S w c1 (.str x.atom.name) ∧ D.rd S w c2 (Tm.sd x.atom.args) ∧ D.rd S w c3 (.str x.v) ∧ D.rd S w c4 (Fm.sd x.parts)
theorem Fm.at_keep {S : Nat → Prop} {w w' : World} {c0 c1 c2 c3 c4 : Value} {x : Fm} (hk : Keeps S w w') (h : Fm.at S w c0 c1 c2 c3 c4 x) : Fm.at S w' c0 c1 c2 c3 c4 x :=
  ⟨D.rd_keep hk _ _ h.1, D.rd_keep hk _ _ h.2.1, D.rd_keep hk _ _ h.2.2.1, D.rd_keep hk _ _ h.2.2.2.1, D.rd_keep hk _ _ h.2.2.2.2⟩
theorem Fm.at_mono {S S' : Nat → Prop} {w : World} {c0 c1 c2 c3 c4 : Value} {x : Fm} (hs : ∀ b, S b → S' b) (h : Fm.at S w c0 c1 c2 c3 c4 x) : Fm.at S' w c0 c1 c2 c3 c4 x :=
  ⟨D.rd_mono hs _ _ h.1, D.rd_mono hs _ _ h.2.1, D.rd_mono hs _ _ h.2.2.1, D.rd_mono hs _ _ h.2.2.2.1, D.rd_mono hs _ _ h.2.2.2.2⟩
theorem Fm.wide : Wide Fm.cs 5 := fun x => by cases x; simp [Fm.cs]
theorem Fm.sd_is (xs : List Fm) : Fm.sd xs = slOf Fm.cs xs := Fm.sd_slOf _
theorem Fm.sd_form {S : Nat → Prop} {w : World} {v : Value} {xs : List Fm} (h : D.rd S w v (Fm.sd xs)) : ∃ a cap, v = .slice a xs.length cap ∧ xs.length ≤ big ∧ xs.length ≤ cap := slOf_form (Fm.sd_is xs ▸ h)
theorem Fm.at_form {S : Nat → Prop} {w : World} {c0 c1 c2 c3 c4 : Value} {x : Fm} (h : Fm.at S w c0 c1 c2 c3 c4 x) : c0 = .int .i64 x.op ∧ c1 = .string x.atom.name ∧ (∃ a cap, c2 = .slice a x.atom.args.length cap) ∧ c3 = .string x.v ∧ (∃ a cap, c4 = .slice a x.parts.length cap) :=
  ⟨by have q := h.1; rw [D.rd] at q; first | exact q | exact q.1, by have q := h.2.1; rw [D.rd] at q; first | exact q | exact q.1, by obtain ⟨a, cap, e, _⟩ := Tm.sd_form h.2.2.1; exact ⟨a, cap, e⟩, by have q := h.2.2.2.1; rw [D.rd] at q; first | exact q | exact q.1, by obtain ⟨a, cap, e, _⟩ := Fm.sd_form h.2.2.2.2; exact ⟨a, cap, e⟩⟩
theorem Fm.cs_eq (x : Fm) : Fm.cs x = [(.num x.op), (.str x.atom.name), (Tm.sd x.atom.args), (.str x.v), (Fm.sd x.parts)] := by cases x; simp [Fm.cs, Fm.op, Fm.atom, Fm.v, Fm.parts, Fm.sd]
theorem Fm.sd_get {S : Nat → Prop} {w : World} {a : Option Addr} {n cap : Nat} {xs : List Fm} (h : D.rd S w (.slice a n cap) (Fm.sd xs)) (hne : xs ≠ []) : ∃ b off, a = some ⟨b, off, none⟩ ∧ S b ∧ b < w.heap.size ∧
    ∀ k (hk : k < xs.length), ∃ c0 c1 c2 c3 c4, w.cell? ⟨b, off + k * 5, none⟩ = some c0 ∧ w.cell? ⟨b, off + k * 5 + 1, none⟩ = some c1 ∧ w.cell? ⟨b, off + k * 5 + 2, none⟩ = some c2 ∧ w.cell? ⟨b, off + k * 5 + 3, none⟩ = some c3 ∧ w.cell? ⟨b, off + k * 5 + 4, none⟩ = some c4 ∧ Fm.at S w c0 c1 c2 c3 c4 xs[k] := by
  rw [Fm.sd_is] at h
  obtain ⟨b, off, q0, q1, q2, hr⟩ := slOf_get Fm.wide (by decide) h hne
  refine ⟨b, off, q0, q1, q2, fun k hk => ?_⟩
  obtain ⟨c0, r0, s0⟩ := hr k hk 0 (.num xs[k].op) (by rw [Fm.cs_eq]; rfl)
  obtain ⟨c1, r1, s1⟩ := hr k hk 1 (.str xs[k].atom.name) (by rw [Fm.cs_eq]; rfl)
  obtain ⟨c2, r2, s2⟩ := hr k hk 2 (Tm.sd xs[k].atom.args) (by rw [Fm.cs_eq]; rfl)
  obtain ⟨c3, r3, s3⟩ := hr k hk 3 (.str xs[k].v) (by rw [Fm.cs_eq]; rfl)
  obtain ⟨c4, r4, s4⟩ := hr k hk 4 (Fm.sd xs[k].parts) (by rw [Fm.cs_eq]; rfl)
  exact ⟨c0, c1, c2, c3, c4, by rw [← r0]; congr 2, by rw [← r1]; congr 2, by rw [← r2]; congr 2, by rw [← r3]; congr 2, by rw [← r4]; congr 2, s0, s1, s2, s3, s4⟩
theorem Fm.css_length (xs : List Fm) : (Fm.css xs).length = xs.length * 5 := by rw [Fm.css_flat]; exact flat_length Fm.wide xs
theorem Fm.css_ne {xs : List Fm} (h : xs ≠ []) : Fm.css xs ≠ [] := by rw [Fm.css_flat]; exact flat_ne Fm.wide (by decide) h
theorem Fm.css_take_succ (xs : List Fm) (k : Nat) (hk : k < xs.length) : Fm.css (xs.take (k + 1)) = Fm.css (xs.take k) ++ [(.num xs[k].op), (.str xs[k].atom.name), (Tm.sd xs[k].atom.args), (.str xs[k].v), (Fm.sd xs[k].parts)] := by rw [Fm.css_flat, Fm.css_flat, flat_take_succ _ _ hk, Fm.cs_eq]
theorem Fm.sd_css (xs : List Fm) : Fm.sd xs = .sl xs.length (Fm.css xs) := by rw [Fm.sd_is, slOf, Fm.css_flat]
theorem Fm.bulks_le : ∀ (ts : List Fm) (k : Nat), Fm.bulks (ts.take k) ≤ Fm.bulks ts
  | [], k => by simp
  | t :: ts, 0 => by simp [Fm.bulks]
  | t :: ts, k + 1 => by
    have := Fm.bulks_le ts k
    simp only [List.take_succ_cons, Fm.bulks]; omega
theorem Fm.bulks_take : ∀ (ts : List Fm) (k : Nat) (hk : k < ts.length), Fm.bulks (ts.take (k + 1)) = Fm.bulks (ts.take k) + Fm.bulk ts[k]
  | [], k, hk => absurd hk (by simp)
  | t :: ts, 0, _ => by simp [Fm.bulks]
  | t :: ts, k + 1, hk => by
    have := Fm.bulks_take ts k (by simpa using hk)
    simp only [List.take_succ_cons, Fm.bulks, this, List.getElem_cons_succ]; omega
theorem Fm.bulk_mem {ts : List Fm} {t : Fm} (h : t ∈ ts) : Fm.bulk t ≤ Fm.bulks ts := by
  induction ts with
  | nil => cases h
  | cons a ts ih =>
    rw [Fm.bulks]
    rcases List.mem_cons.1 h with rfl | h
    · omega
    · have := ih h; omega
theorem Fm.eqbs_length {ts us : List Fm} (h : ts.length ≠ us.length) : Fm.eqbs ts us = false := by
  rw [Bool.eq_false_iff]; intro e; exact h (by rw [(Fm.eqbs_iff _ _).1 e])
theorem Fm.eqbs_at {ts us : List Fm} {k : Nat} (h1 : k < ts.length) (h2 : k < us.length) (hn : Fm.eqb ts[k] us[k] = false) : Fm.eqbs ts us = false := by
  rw [Bool.eq_false_iff]; intro e
  have := (Fm.eqbs_iff _ _).1 e
  subst this
  rw [(Fm.eqb_iff _ _).2 rfl] at hn
  exact absurd hn (by simp)
theorem Fm.eqbs_take {ts us : List Fm} {k : Nat} (h1 : k < ts.length) (h2 : k < us.length) (h : ts.take k = us.take k) (hn : Fm.eqb ts[k] us[k] = true) : ts.take (k + 1) = us.take (k + 1) := by
  rw [List.take_succ_eq_append_getElem h1, List.take_succ_eq_append_getElem h2, h, (Fm.eqb_iff _ _).1 hn]
theorem Fm.own0 {S : Nat → Prop} {w w' : World} {c0 c1 c2 c3 c4 : Value} {x : Fm} (h : Fm.at S w c0 c1 c2 c3 c4 x) : D.own w' (.int .i64 x.op) (.num x.op) [] := by have q := h.1; rw [D.rd] at q; rw [D.own]; exact ⟨rfl, q.2.1, q.2.2, rfl⟩
theorem Fm.own1 {S : Nat → Prop} {w w' : World} {c0 c1 c2 c3 c4 : Value} {x : Fm} (h : Fm.at S w c0 c1 c2 c3 c4 x) : D.own w' (.string x.atom.name) (.str x.atom.name) [] := D.own_str (by have q := h.2.1; rw [D.rd] at q; exact q.2)
theorem Fm.own3 {S : Nat → Prop} {w w' : World} {c0 c1 c2 c3 c4 : Value} {x : Fm} (h : Fm.at S w c0 c1 c2 c3 c4 x) : D.own w' (.string x.v) (.str x.v) [] := D.own_str (by have q := h.2.2.2.1; rw [D.rd] at q; exact q.2)
def SzFm (x : Fm) : Prop := ∀ (S : Nat → Prop) (c0 c1 c2 c3 c4 : Value) (left : Int) (w : World), Fm.at S w c0 c1 c2 c3 c4 x → 0 ≤ left → left ≤ 1048576 →
  Calls Try.prog 7 #[.agg #[c0, c1, c2, c3, c4], .int .i64 left] w fun e w' => e = .returned (.int .i64 (after (Fm.bulk x) left)) ∧ Below w.heap.size w w'
def SzFmS (ts : List Fm) : Prop := ∀ (S : Nat → Prop) (v : Value) (left : Int) (w : World), D.rd S w v (Fm.sd ts) → 0 ≤ left → left ≤ 1048576 →
  Calls Try.prog 25 #[v, .int .i64 left] w fun e w' => e = .returned (.int .i64 (after (ts.length + Fm.bulks ts) left)) ∧ Below w.heap.size w w'
def MadeFm (x : Fm) (w : World) (e : Ending) (w' : World) : Prop := ∃ v2 v4 F2 F4, e = .returned (.agg #[.int .i64 x.op, .string x.atom.name, v2, .string x.v, v4]) ∧ D.own w' v2 (Tm.sd x.atom.args) F2 ∧ D.own w' v4 (Fm.sd x.parts) F4 ∧ (∀ y ∈ F2, w.heap.size ≤ y) ∧ (∀ y ∈ F4, w.heap.size ≤ y) ∧ (∀ y ∈ F2, y ∉ F4) ∧ Below w.heap.size w w'
def ToFm (x : Fm) : Prop := ∀ (S : Nat → Prop) (c0 c1 c2 c3 c4 : Value) (w : World), Fm.at S w c0 c1 c2 c3 c4 x → Fm.bulk x ≤ 1048576 → Calls Try.prog 9 #[.agg #[c0, c1, c2, c3, c4]] w (MadeFm x w)
def MadeFmS (ts : List Fm) (w : World) (e : Ending) (w' : World) : Prop := ∃ v F, e = .returned v ∧ D.own w' v (Fm.sd ts) F ∧ (∀ x ∈ F, w.heap.size ≤ x) ∧ Below w.heap.size w w'
def ToFmS (ts : List Fm) : Prop := ∀ (S : Nat → Prop) (v : Value) (w : World), D.rd S w v (Fm.sd ts) → ts.length + Fm.bulks ts ≤ 1048576 → Calls Try.prog 28 #[v] w (MadeFmS ts w)
def EqFm (t : Fm) : Prop := ∀ (u : Fm) (S : Nat → Prop) (c0 c1 c2 c3 c4 d0 d1 d2 d3 d4 : Value) (w : World), Fm.at S w c0 c1 c2 c3 c4 t → Fm.at S w d0 d1 d2 d3 d4 u → Calls Try.prog 11 #[.agg #[c0, c1, c2, c3, c4], .agg #[d0, d1, d2, d3, d4]] w fun e w' => e = .returned (.bool (Fm.eqb t u)) ∧ Below w.heap.size w w'
def EqFmS (ts : List Fm) : Prop := ∀ (us : List Fm) (S : Nat → Prop) (v u : Value) (w : World), D.rd S w v (Fm.sd ts) → D.rd S w u (Fm.sd us) → Calls Try.prog 31 #[v, u] w fun e w' => e = .returned (.bool (Fm.eqbs ts us)) ∧ Below w.heap.size w w'
set_option maxHeartbeats 400000 in
theorem szFmS_of (ts : List Fm) (h : ∀ t ∈ ts, SzFm t) : SzFmS ts := by
  intro S v left w hr h0 h1
  obtain ⟨a, cap, rfl, hlen, hcap⟩ := Fm.sd_form hr
  unfold big at hlen
  by_cases hl : left < ts.length
  · have hx : left < (ts.length + Fm.bulks ts : Nat) := by omega
    have HX := hid (after_neg hx); clear hx
    go_enter Try.func25, Try.ntmps25
    go_wp2_with fail
    go_ret
    exact ⟨ret_i64 HX.out.symm, Below.refl _ _⟩
  · go_enter Try.func25, Try.ntmps25
    go_wp2_with fail
    go_loopw [1, 5] (fun l i wr => ∃ (k : Nat) (x : Int), k ≤ ts.length ∧ i = .int .i64 k ∧ l = .int .i64 x ∧ 0 ≤ x ∧ x ≤ 1048576 ∧ Hid (x = left - (ts.length + Fm.bulks (ts.take k) : Nat)) ∧ Below w.heap.size w wr) (fun _ i _ => ts.length - (intOf i).toNat)
    case atStart => exact ⟨0, _, Nat.zero_le _, rfl, rfl, by omega, by omega, by simp [Hid, Fm.bulks], Below.refl _ _⟩
    case round =>
      obtain ⟨k, x, hk, rfl, rfl, hx0, hx1, HX, hb⟩ := hrel
      by_cases hlt : k < ts.length
      · have hne : ts ≠ [] := by intro e; subst e; simp at hlt
        obtain ⟨b, off, rfl, hS, hbl, hrr⟩ := Fm.sd_get hr hne
        obtain ⟨c0, c1, c2, c3, c4, q0, q1, q2, q3, q4, qx⟩ := hrr k hlt
        have q0' := (hb.cell (p := ⟨b, off + k * 5, none⟩) hbl).trans q0
        have q1' := (hb.cell (p := ⟨b, off + k * 5 + 1, none⟩) hbl).trans q1
        have q2' := (hb.cell (p := ⟨b, off + k * 5 + 2, none⟩) hbl).trans q2
        have q3' := (hb.cell (p := ⟨b, off + k * 5 + 3, none⟩) hbl).trans q3
        have q4' := (hb.cell (p := ⟨b, off + k * 5 + 4, none⟩) hbl).trans q4
        have qx' := Fm.at_keep (Keeps.all hb) qx
        have hmem := h ts[k] (List.getElem_mem hlt)
        have hstep := hid (Fm.bulks_take ts k hlt)
        have hstle := hid (Fm.bulks_le ts (k + 1))
        clear q0 q1 q2 q3 q4 qx hr hrr
        go_wp2_with fail
        refine (hmem S _ _ _ _ _ _ _ qx' hx0 hx1).mono ?_
        rintro e w' ⟨rfl, hb'⟩
        by_cases hl2 : x < Fm.bulk ts[k]
        · have HZ : Hid (after (ts.length + Fm.bulks ts) left = -1) := after_neg (by have := HX.out; have := hstep.out; have := hstle.out; omega)
          rw [after_neg hl2]
          go_wp2_with fail
          go_ret
          exact ⟨ret_i64 HZ.out.symm, hb.trans (hb'.mono hb.size)⟩
        · have hge : (Fm.bulk ts[k] : Int) ≤ x := by omega
          have HZ : Hid (x - (Fm.bulk ts[k] : Nat) = left - (ts.length + Fm.bulks (ts.take (k + 1)) : Nat)) := by
            have := HX.out; have := hstep.out; show (_ : Int) = _; omega
          rw [after_pos hge]
          go_wp2_with fail
          go_roundw
          case rel => exact ⟨k + 1, _, by omega, by go_num, rfl, by omega, by omega, HZ, hb.trans (hb'.mono hb.size)⟩
          case measure => simp [intOf]; omega
      · obtain rfl : k = ts.length := by omega
        have HY : Hid (x = after (ts.length + Fm.bulks ts) left) := by
          have h := HX.out
          rw [List.take_length] at h
          rw [after_pos (by omega)]; exact h
        go_wp2_with fail
        go_ret
        exact ⟨ret_i64 HY.out, hb⟩
theorem Fm.sd_own_form {w : World} {v : Value} {ts : List Fm} {F : List Nat} (h : D.own w v (Fm.sd ts) F) : ∃ a cap, v = .slice a ts.length cap := by
  rw [Fm.sd_css, D.own] at h
  obtain ⟨a, cap, e, _⟩ := h
  exact ⟨a, cap, e⟩
theorem infoFormula : (Try.prog.info? 36).map (fun i => (i.zero, i.size, i.bytes)) = some (some (.agg #[.int .i64 0, .string ByteArray.empty, .slice none 0 0, .string ByteArray.empty, .slice none 0 0]), 5, 88) := by kernel_rfl
set_option maxHeartbeats 400000 in
theorem toFmS_of (ts : List Fm) (h : ∀ t ∈ ts, ToFm t) : ToFmS ts := by
  intro S v w hr hbk
  obtain ⟨a, cap, rfl, hlen, hcap⟩ := Fm.sd_form hr
  have hmk := run_mk (P := Try.prog) Try.underlying34 infoFormula ts.length (by omega) hlen
  unfold big at hlen
  go_enter Try.func28, Try.ntmps28
  go_wp2_with fail
  go_loopw [4] (fun i wr => ∃ (k : Nat) (F : List Nat), k ≤ ts.length ∧ i = .int .i64 k ∧ Filled wr w.heap.size 36 (ts.length * 5) (Fm.css (ts.take k)) F ∧ (∀ x ∈ F, w.heap.size < x) ∧ Below w.heap.size w wr) (fun i _ => ts.length - (intOf i).toNat)
  case atStart =>
    refine ⟨0, [], Nat.zero_le _, rfl, ?_, by simp, (Below.refl _ _).alloc (Nat.le_refl _) _⟩
    have := Filled.made w (madeCells #[Value.int .i64 0, .string ByteArray.empty, .slice none 0 0, .string ByteArray.empty, .slice none 0 0] (ts.length * 5)) 36
    rw [size_madeCells] at this
    simpa [Fm.css] using this
  case round =>
    obtain ⟨k, F, hk, rfl, hfl, hF, hb⟩ := hrel
    by_cases hlt : k < ts.length
    · have hne : ts ≠ [] := by intro e; subst e; simp at hlt
      obtain ⟨b, off, rfl, hS, hbl, hrr⟩ := Fm.sd_get hr hne
      obtain ⟨c0, c1, c2, c3, c4, q0, q1, q2, q3, q4, qx⟩ := hrr k hlt
      have q0' := (hb.cell (p := ⟨b, off + k * 5, none⟩) hbl).trans q0
      have q1' := (hb.cell (p := ⟨b, off + k * 5 + 1, none⟩) hbl).trans q1
      have q2' := (hb.cell (p := ⟨b, off + k * 5 + 2, none⟩) hbl).trans q2
      have q3' := (hb.cell (p := ⟨b, off + k * 5 + 3, none⟩) hbl).trans q3
      have q4' := (hb.cell (p := ⟨b, off + k * 5 + 4, none⟩) hbl).trans q4
      replace qx := Fm.at_keep (Keeps.all hb) qx
      have hmem := h ts[k] (List.getElem_mem hlt)
      have hbk' := Fm.bulk_mem (List.getElem_mem hlt)
      clear q0 q1 q2 q3 q4 hr hrr
      go_wp2_with fail
      refine (hmem S _ _ _ _ _ _ qx (by omega)).mono ?_
      rintro e w1 ⟨v2, v4, G2, G4, rfl, ho2, ho4, hG2, hG4, hdis, hb1⟩
      obtain ⟨a2, ca2, rfl⟩ := Tm.sd_own_form ho2
      obtain ⟨a4, ca4, rfl⟩ := Fm.sd_own_form ho4
      have hfl1 := hfl.keep (Keeps.all hb1)
      obtain ⟨x0, hx0⟩ := hfl1.cell (p := k * 5) (by omega)
      obtain ⟨x1, hx1⟩ := hfl1.cell (p := k * 5 + 1) (by omega)
      obtain ⟨x2, hx2⟩ := hfl1.cell (p := k * 5 + 2) (by omega)
      obtain ⟨x3, hx3⟩ := hfl1.cell (p := k * 5 + 3) (by omega)
      obtain ⟨x4, hx4⟩ := hfl1.cell (p := k * 5 + 4) (by omega)
      have hf0 := hfl1.free (k * 5)
      have hf1 := hfl1.free (k * 5 + 1)
      have hf2 := hfl1.free (k * 5 + 2)
      have hf3 := hfl1.free (k * 5 + 3)
      have hf4 := hfl1.free (k * 5 + 4)
      go_wp2_with fail
      go_roundw
      case rel =>
        have hB := hb.size
        have hBl := hfl.lt
        have hG2' : w.heap.size ∉ G2 := fun q => by have := hG2 _ q; omega
        have hG4' : w.heap.size ∉ G4 := fun q => by have := hG4 _ q; omega
        refine ⟨k + 1, F ++ (G2 ++ G4), by omega, by go_num, ?_, fun x hx => ?_, (((((hb.trans (hb1.mono hB)).setCell (Nat.le_refl _) _).setCell (Nat.le_refl _) _).setCell (Nat.le_refl _) _).setCell (Nat.le_refl _) _).setCell (Nat.le_refl _) _⟩
        · rw [Fm.css_take_succ ts k hlt]
          have hl : (Fm.css (ts.take k)).length = k * 5 := by rw [Fm.css_length, List.length_take, Nat.min_eq_left hk]
          have hd2 : ∀ x ∈ F, x ∉ G2 := fun x hx hx' => by have := hG2 x hx'; have := hfl.ltF x hx; omega
          have hd4 : ∀ x ∈ F ++ G2, x ∉ G4 := fun x hx hx' => by
            rcases List.mem_append.1 hx with hx | hx
            · have := hG4 x hx'; have := hfl.ltF x hx; omega
            · exact hdis x hx hx'
          have s0 := hfl1.set (p := k * 5) (v := .int .i64 ts[k].op) (d := .num ts[k].op) (G := []) (by exact hl.symm) (by omega) (Fm.own0 qx) (by simp) (by simp)
          have s1 := s0.set (p := k * 5 + 1) (v := .string ts[k].atom.name) (d := .str ts[k].atom.name) (G := []) (by simp [hl]) (by omega) (Fm.own1 qx) (by simp) (by simp)
          have s2 := s1.set (p := k * 5 + 2) (v := .slice a2 ts[k].atom.args.length ca2) (d := Tm.sd ts[k].atom.args) (G := G2) (by simp [hl]) (by omega) (D.own_keep _ _ _ (((Keeps.refl _ _).setCell (fun q _ => hG2' q) _).setCell (fun q _ => hG2' q) _) ho2) hG2' (by simpa using hd2)
          have s3 := s2.set (p := k * 5 + 3) (v := .string ts[k].v) (d := .str ts[k].v) (G := []) (by simp [hl]) (by omega) (Fm.own3 qx) (by simp) (by simp)
          have s4 := s3.set (p := k * 5 + 4) (v := .slice a4 ts[k].parts.length ca4) (d := Fm.sd ts[k].parts) (G := G4) (by simp [hl]) (by omega) (D.own_keep _ _ _ (((((Keeps.refl _ _).setCell (fun q _ => hG4' q) _).setCell (fun q _ => hG4' q) _).setCell (fun q _ => hG4' q) _).setCell (fun q _ => hG4' q) _) ho4) hG4' (by simpa using hd4)
          simpa using s4
        · rcases List.mem_append.1 hx with hx | hx
          · exact hF x hx
          · rcases List.mem_append.1 hx with hx | hx
            · have := hG2 x hx; omega
            · have := hG4 x hx; omega
      case measure => simp [intOf]; omega
    · obtain rfl : k = ts.length := by omega
      go_wp2_with fail
      go_ret
      rw [List.take_length] at hfl
      by_cases hne : ts = []
      · subst hne
        refine ⟨_, [], rfl, ?_, by simp, hb⟩
        have := D.own_nil (w := wr) (some ⟨w.heap.size, 0, none⟩) 0
        rw [Fm.sd_css]; simpa [Fm.css] using this
      · exact ⟨_, _ :: F, rfl, by rw [Fm.sd_css]; exact hfl.own (Fm.css_ne hne) (by unfold big; omega) (Nat.le_refl _), fun x hx => by rcases List.mem_cons.1 hx with rfl | hx; exact Nat.le_refl _; exact Nat.le_of_lt (hF x hx), hb⟩
set_option maxHeartbeats 400000 in
theorem eqFmS_of (ts : List Fm) (h : ∀ t ∈ ts, EqFm t) : EqFmS ts := by
  intro us S v u w hr hr'
  obtain ⟨a, cap, rfl, hlen, hcap⟩ := Fm.sd_form hr
  obtain ⟨a', cap', rfl, hlen', hcap'⟩ := Fm.sd_form hr'
  unfold big at hlen hlen'
  by_cases hll : ts.length = us.length
  · go_enter Try.func31, Try.ntmps31
    go_wp2_with fail
    go_loopw [5] (fun i wr => ∃ (k : Nat), k ≤ ts.length ∧ i = .int .i64 k ∧ Hid (ts.take k = us.take k) ∧ Below w.heap.size w wr) (fun i _ => ts.length - (intOf i).toNat)
    case atStart => exact ⟨0, Nat.zero_le _, rfl, by simp [Hid], Below.refl _ _⟩
    case round =>
      obtain ⟨k, hk, rfl, HX, hb⟩ := hrel
      by_cases hlt : k < ts.length
      · have hne : ts ≠ [] := by intro e; subst e; simp at hlt
        have hlt' : k < us.length := by omega
        have hne' : us ≠ [] := by intro e; subst e; simp at hlt'
        obtain ⟨b, off, rfl, hS, hbl, hrr⟩ := Fm.sd_get hr hne
        obtain ⟨b', off', rfl, hS', hbl', hrr'⟩ := Fm.sd_get hr' hne'
        obtain ⟨c0, c1, c2, c3, c4, q0, q1, q2, q3, q4, qx⟩ := hrr k hlt
        obtain ⟨d0, d1, d2, d3, d4, r0, r1, r2, r3, r4, rx⟩ := hrr' k hlt'
        replace q0 := (hb.cell (p := ⟨b, off + k * 5, none⟩) hbl).trans q0
        replace q1 := (hb.cell (p := ⟨b, off + k * 5 + 1, none⟩) hbl).trans q1
        replace q2 := (hb.cell (p := ⟨b, off + k * 5 + 2, none⟩) hbl).trans q2
        replace q3 := (hb.cell (p := ⟨b, off + k * 5 + 3, none⟩) hbl).trans q3
        replace q4 := (hb.cell (p := ⟨b, off + k * 5 + 4, none⟩) hbl).trans q4
        replace r0 := (hb.cell (p := ⟨b', off' + k * 5, none⟩) hbl').trans r0
        replace r1 := (hb.cell (p := ⟨b', off' + k * 5 + 1, none⟩) hbl').trans r1
        replace r2 := (hb.cell (p := ⟨b', off' + k * 5 + 2, none⟩) hbl').trans r2
        replace r3 := (hb.cell (p := ⟨b', off' + k * 5 + 3, none⟩) hbl').trans r3
        replace r4 := (hb.cell (p := ⟨b', off' + k * 5 + 4, none⟩) hbl').trans r4
        replace qx := Fm.at_keep (Keeps.all hb) qx
        replace rx := Fm.at_keep (Keeps.all hb) rx
        have hmem := h ts[k] (List.getElem_mem hlt)
        clear hr hrr hr' hrr' 
        go_wp2_with fail
        have hb0 : b < wr.heap.size := Nat.lt_of_lt_of_le hbl hb.size
        have hb0' : b' < wr.heap.size := Nat.lt_of_lt_of_le hbl' hb.size
        refine wp_region_B [fun v _ => v = .slice (some ⟨b, off, none⟩) ts.length cap, fun v _ => v = .int .i64 k, fun v _ => v = .pointer (some ⟨b, off + k * 5, none⟩), fun v _ => v = .agg #[c0, c1, c2, c3, c4], fun v _ => v = .slice (some ⟨b', off', none⟩) us.length cap', fun v _ => v = .int .i64 k, fun v _ => v = .pointer (some ⟨b', off' + k * 5, none⟩), fun v _ => v = .agg #[d0, d1, d2, d3, d4], fun v _ => v = .bool (Fm.eqb ts[k] us[k]), fun v _ => v = .bool (!Fm.eqb ts[k] us[k])] _ (fun V => by simp [putAll, Act.put]; rfl) (by kernel_rfl) (by decide) (by simp) (by kernel_rfl) ?_ ?_ ?_
        · intro F hF
          simp only [List.mem_cons, List.not_mem_nil, or_false] at hF
          rcases hF with rfl | rfl | rfl | rfl | rfl | rfl | rfl | rfl | rfl | rfl
          · exact stable_eq
          · exact stable_eq
          · exact stable_eq
          · exact stable_eq
          · exact stable_eq
          · exact stable_eq
          · exact stable_eq
          · exact stable_eq
          · exact stable_eq
          · exact stable_eq
        · refine ⟨?_, ?_, ?_, ?_, ?_, ?_, ?_, ?_, ?_, ?_, trivial⟩
          · intro V w1 hbR _
            unfold Does
            go_simp
            exact ⟨Below.refl _ _, rfl⟩
          · intro V w1 hbR _
            unfold Does
            go_simp
            exact ⟨Below.refl _ _, rfl⟩
          · intro V w1 hbR ⟨f0, f1, _⟩
            replace f0 : V 0 = .slice (some ⟨b, off, none⟩) ts.length cap := f0
            replace f1 : V 1 = .int .i64 k := f1
            unfold Does
            go_simp
            exact ⟨Below.refl _ _, rfl⟩
          · intro V w1 hbR ⟨f2, _⟩
            replace f2 : V 2 = .pointer (some ⟨b, off + k * 5, none⟩) := f2
            obtain ⟨hc, hf⟩ := bcell hbR
            try simp only [World.size_alloc, World.size_setCell] at hc hf
            unfold Does
            go_simp
            exact ⟨Below.refl _ _, rfl⟩
          · intro V w1 hbR _
            unfold Does
            go_simp
            exact ⟨Below.refl _ _, rfl⟩
          · intro V w1 hbR _
            unfold Does
            go_simp
            exact ⟨Below.refl _ _, rfl⟩
          · intro V w1 hbR ⟨f4, f5, _⟩
            replace f4 : V 4 = .slice (some ⟨b', off', none⟩) us.length cap' := f4
            replace f5 : V 5 = .int .i64 k := f5
            unfold Does
            go_simp
            exact ⟨Below.refl _ _, rfl⟩
          · intro V w1 hbR ⟨f6, _⟩
            replace f6 : V 6 = .pointer (some ⟨b', off' + k * 5, none⟩) := f6
            obtain ⟨hc, hf⟩ := bcell hbR
            try simp only [World.size_alloc, World.size_setCell] at hc hf
            unfold Does
            go_simp
            exact ⟨Below.refl _ _, rfl⟩
          · intro V w1 hbR ⟨f3, f7, _⟩
            replace f3 : V 3 = .agg #[c0, c1, c2, c3, c4] := f3
            replace f7 : V 7 = .agg #[d0, d1, d2, d3, d4] := f7
            obtain ⟨hc, hf⟩ := bcell hbR
            try simp only [World.size_alloc, World.size_setCell] at hc hf
            unfold Does
            go_simp
            refine (hmem us[k] S _ _ _ _ _ _ _ _ _ _ _ (Fm.at_keep (Keeps.all hbR) qx) (Fm.at_keep (Keeps.all hbR) rx)).mono ?_; rintro e w2 ⟨rfl, hb2⟩; exact ⟨_, rfl, hb2, rfl⟩
          · intro V w1 hbR ⟨f8, _⟩
            replace f8 : V 8 = .bool (Fm.eqb ts[k] us[k]) := f8
            unfold Does
            go_simp
            exact ⟨Below.refl _ _, rfl⟩
        intro V w1 hbR hfR
        obtain ⟨f0, f1, f2, f3, f4, f5, f6, f7, f8, f9, _⟩ := hfR
        replace f0 : V 0 = .slice (some ⟨b, off, none⟩) ts.length cap := f0
        replace f1 : V 1 = .int .i64 k := f1
        replace f2 : V 2 = .pointer (some ⟨b, off + k * 5, none⟩) := f2
        replace f3 : V 3 = .agg #[c0, c1, c2, c3, c4] := f3
        replace f4 : V 4 = .slice (some ⟨b', off', none⟩) us.length cap' := f4
        replace f5 : V 5 = .int .i64 k := f5
        replace f6 : V 6 = .pointer (some ⟨b', off' + k * 5, none⟩) := f6
        replace f7 : V 7 = .agg #[d0, d1, d2, d3, d4] := f7
        replace f8 : V 8 = .bool (Fm.eqb ts[k] us[k]) := f8
        replace f9 : V 9 = .bool (!Fm.eqb ts[k] us[k]) := f9
        simp only [f0, f1, f2, f3, f4, f5, f6, f7, f8, f9]
        clear f0 f1 f2 f3 f4 f5 f6 f7 f8 f9
        by_cases he : Fm.eqb ts[k] us[k] = true
        · have HZ := hid (Fm.eqbs_take hlt hlt' HX.out he)
          rw [he]
          go_wp2_with fail
          go_roundw
          case rel => exact ⟨k + 1, by omega, by go_num, HZ, hb.trans (hbR.mono hb.size)⟩
          case measure => simp [intOf]; omega
        · have he' : Fm.eqb ts[k] us[k] = false := by simpa using he
          have HZ := hid (Fm.eqbs_at hlt hlt' he')
          rw [he']
          clear he he'
          go_wp2_with fail
          go_ret
          exact ⟨ret_bool HZ.out.symm, hb.trans (hbR.mono hb.size)⟩
      · obtain rfl : k = ts.length := by omega
        have HY : Hid (Fm.eqbs ts us = true) := by
          have := HX.out
          rw [List.take_length, hll, List.take_length] at this
          rw [Hid, Fm.eqbs_iff]; exact this
        go_wp2_with fail
        go_ret
        exact ⟨ret_bool HY.out.symm, hb⟩
  · have HY := hid (Fm.eqbs_length hll)
    go_enter Try.func31, Try.ntmps31
    go_wp2_with fail
    go_ret
    exact ⟨ret_bool HY.out.symm, Below.refl _ _⟩

theorem Fm.at_atom {S : Nat → Prop} {w : World} {c0 c1 c2 c3 c4 : Value} {x : Fm} (h : Fm.at S w c0 c1 c2 c3 c4 x) : Tm.at S w c1 c2 x.atom := ⟨h.2.1, h.2.2.1⟩
theorem Fm.at_parts {S : Nat → Prop} {w : World} {c0 c1 c2 c3 c4 : Value} {x : Fm} (h : Fm.at S w c0 c1 c2 c3 c4 x) : D.rd S w c4 (Fm.sd x.parts) := h.2.2.2.2
theorem Fm.v_le {S : Nat → Prop} {w : World} {c0 c1 c2 c3 c4 : Value} {x : Fm} (h : Fm.at S w c0 c1 c2 c3 c4 x) : x.v.size ≤ maxLen := by have q := h.2.2.2.1; rw [D.rd] at q; exact q.2
theorem Fm.op_in {S : Nat → Prop} {w : World} {c0 c1 c2 c3 c4 : Value} {x : Fm} (h : Fm.at S w c0 c1 c2 c3 c4 x) : -9223372036854775808 ≤ x.op ∧ x.op ≤ 9223372036854775807 := by have q := h.1; rw [D.rd] at q; exact q.2
theorem Fm.bulk_eq (x : Fm) : x.bulk = x.atom.bulk + x.v.size + (x.parts.length + Fm.bulks x.parts) := by cases x; simp [Fm.bulk, Fm.atom, Fm.v, Fm.parts]
theorem Fm.eqb_eq (x y : Fm) : Fm.eqb x y = (decide (x.op = y.op) && Tm.eqb x.atom y.atom && decide (x.v = y.v) && Fm.eqbs x.parts y.parts) := by cases x; cases y; rw [Fm.eqb]; rfl

set_option maxHeartbeats 1000000 in
theorem szFm_of (x : Fm) (hp : SzFmS x.parts) : SzFm x := by
  intro S c0 c1 c2 c3 c4 left w hr h0 h1
  have hvl := Fm.v_le hr
  have hbe := Fm.bulk_eq x
  obtain ⟨rfl, rfl, ⟨a, cap, rfl⟩, rfl, a2, cap2, rfl⟩ := Fm.at_form hr
  have hW : Below w.heap.size w (w.alloc (.cells #[.int .i64 x.op, .string x.atom.name, .slice a x.atom.args.length cap, .string x.v, .slice a2 x.parts.length cap2] 27)) := (Below.refl _ _).alloc (Nat.le_refl _) _
  have bT : Box (w.alloc (.cells #[.int .i64 x.op, .string x.atom.name, .slice a x.atom.args.length cap, .string x.v, .slice a2 x.parts.length cap2] 27)) w.heap.size [.int .i64 x.op, .string x.atom.name, .slice a x.atom.args.length cap, .string x.v, .slice a2 x.parts.length cap2] := Box.new w _ _
  replace hr := Fm.at_keep (Keeps.all hW) hr
  unfold maxLen at hvl
  go_enter Try.func7, Try.ntmps7
  go_wp2_with fail
  generalize w.alloc (.cells #[.int .i64 x.op, .string x.atom.name, .slice a x.atom.args.length cap, .string x.v, .slice a2 x.parts.length cap2] 27) = w0 at *
  refine (szTerm_any x.atom _ _ _ _ _ (Fm.at_atom hr) h0 h1).mono ?_
  rintro e w1 ⟨rfl, hb⟩
  replace hW := hW.trans (hb.mono hW.size)
  replace bT := bT.keep hb
  replace hr := Fm.at_keep (Keeps.all hb) hr
  clear hb
  have e3 := bT.cell 3 (by simp)
  have e4 := bT.cell 4 (by simp)
  have lT := bT.lt
  simp only [List.getElem_cons_succ, List.getElem_cons_zero] at e3 e4
  by_cases hl : left < x.atom.bulk
  · have HX := hid (after_neg (n := x.bulk) (left := left) (by omega))
    rw [after_neg hl]
    go_wp2_with fail
    go_ret
    exact ⟨ret_i64 HX.out.symm, hW⟩
  · rw [after_pos (by omega)]
    by_cases hv : left - x.atom.bulk < x.v.size
    · have HX := hid (after_neg (n := x.bulk) (left := left) (by omega))
      go_wp2_with fail
      go_ret
      exact ⟨ret_i64 HX.out.symm, hW⟩
    · go_wp2_with fail
      refine (hp _ _ _ _ (Fm.at_parts hr) (by omega) (by omega)).mono ?_
      rintro e w2 ⟨rfl, hb⟩
      by_cases hl2 : left - x.atom.bulk - x.v.size < (x.parts.length + Fm.bulks x.parts : Nat)
      · have HX := hid (after_neg (n := x.bulk) (left := left) (by omega))
        rw [after_neg hl2]
        go_wp2_with fail
        go_ret
        exact ⟨ret_i64 HX.out.symm, hW.trans (hb.mono hW.size)⟩
      · have HX : Hid (left - x.atom.bulk - x.v.size - (x.parts.length + Fm.bulks x.parts : Nat) = after x.bulk left) := by rw [Hid, after_pos (by omega)]; omega
        rw [after_pos (by omega)]
        go_wp2_with fail
        go_ret
        exact ⟨ret_i64 HX.out, hW.trans (hb.mono hW.size)⟩

set_option maxHeartbeats 1000000 in
theorem eqFm_of (x : Fm) (hp : EqFmS x.parts) : EqFm x := by
  intro u S c0 c1 c2 c3 c4 d0 d1 d2 d3 d4 w hr hr'
  have HX := hid (Fm.eqb_eq x u)
  obtain ⟨rfl, rfl, ⟨a, cap, rfl⟩, rfl, a2, cap2, rfl⟩ := Fm.at_form hr
  obtain ⟨rfl, rfl, ⟨a', cap', rfl⟩, rfl, a2', cap2', rfl⟩ := Fm.at_form hr'
  have hop := Fm.op_in hr
  have hop' := Fm.op_in hr'
  by_cases ho : x.op = u.op
  · have ho1 : (x.op == u.op) = true := by simp [ho]
    have HO := hid ho
    clear ho
    have hW : Below w.heap.size w ((w.alloc (.cells #[.int .i64 x.op, .string x.atom.name, .slice a x.atom.args.length cap, .string x.v, .slice a2 x.parts.length cap2] 36)).alloc (.cells #[.int .i64 u.op, .string u.atom.name, .slice a' u.atom.args.length cap', .string u.v, .slice a2' u.parts.length cap2'] 36)) := ((Below.refl _ _).alloc (Nat.le_refl _) _).alloc (by simp) _
    have bT : Box ((w.alloc (.cells #[.int .i64 x.op, .string x.atom.name, .slice a x.atom.args.length cap, .string x.v, .slice a2 x.parts.length cap2] 36)).alloc (.cells #[.int .i64 u.op, .string u.atom.name, .slice a' u.atom.args.length cap', .string u.v, .slice a2' u.parts.length cap2'] 36)) w.heap.size [.int .i64 x.op, .string x.atom.name, .slice a x.atom.args.length cap, .string x.v, .slice a2 x.parts.length cap2] := (Box.new w _ _).alloc _
    have bU : Box ((w.alloc (.cells #[.int .i64 x.op, .string x.atom.name, .slice a x.atom.args.length cap, .string x.v, .slice a2 x.parts.length cap2] 36)).alloc (.cells #[.int .i64 u.op, .string u.atom.name, .slice a' u.atom.args.length cap', .string u.v, .slice a2' u.parts.length cap2'] 36)) (w.heap.size + 1) [.int .i64 u.op, .string u.atom.name, .slice a' u.atom.args.length cap', .string u.v, .slice a2' u.parts.length cap2'] := by
      have := Box.new (w.alloc (.cells #[.int .i64 x.op, .string x.atom.name, .slice a x.atom.args.length cap, .string x.v, .slice a2 x.parts.length cap2] 36)) [.int .i64 u.op, .string u.atom.name, .slice a' u.atom.args.length cap', .string u.v, .slice a2' u.parts.length cap2'] 36
      simpa only [World.size_alloc] using this
    replace hr := Fm.at_keep (Keeps.all hW) hr
    replace hr' := Fm.at_keep (Keeps.all hW) hr'
    go_enter Try.func11, Try.ntmps11
    go_wp2_with fail
    generalize (w.alloc (.cells #[.int .i64 x.op, .string x.atom.name, .slice a x.atom.args.length cap, .string x.v, .slice a2 x.parts.length cap2] 36)).alloc (.cells #[.int .i64 u.op, .string u.atom.name, .slice a' u.atom.args.length cap', .string u.v, .slice a2' u.parts.length cap2'] 36) = w0 at *
    refine (eqTerm_any x.atom u.atom S _ _ _ _ _ (Fm.at_atom hr) (Fm.at_atom hr')).mono ?_
    rintro e w1 ⟨rfl, hb⟩
    replace hW := hW.trans (hb.mono hW.size)
    replace bT := bT.keep hb
    replace bU := bU.keep hb
    replace hr := Fm.at_keep (Keeps.all hb) hr
    replace hr' := Fm.at_keep (Keeps.all hb) hr'
    clear hb
    have e3 := bT.cell 3 (by simp)
    have e4 := bT.cell 4 (by simp)
    have lT := bT.lt
    have f3 := bU.cell 3 (by simp)
    have f4 := bU.cell 4 (by simp)
    have lU := bU.lt
    simp only [List.getElem_cons_succ, List.getElem_cons_zero] at e3 e4 f3 f4
    by_cases he : Tm.eqb x.atom u.atom = true
    · rw [he]
      by_cases hv : x.v = u.v
      · have hv1 : (x.v.toList == u.v.toList) = true := by rw [hv]; simp
        have HV := hid hv
        clear hv
        go_wp2_with fail
        refine (hp u.parts S _ _ _ (Fm.at_parts hr) (Fm.at_parts hr')).mono ?_
        rintro e w2 ⟨rfl, hb⟩
        have HY : Hid (Fm.eqb x u = Fm.eqbs x.parts u.parts) := by rw [Hid, HX.out, he]; simp [HO.out, HV.out]
        by_cases hq : Fm.eqbs x.parts u.parts = true
        all_goals
          first | rw [hq] | rw [Bool.eq_false_iff.2 hq]
          go_wp2_with fail
          go_ret
          exact ⟨ret_bool (by rw [HY.out]; simp [hq]), hW.trans (hb.mono hW.size)⟩
      · have hv1 := toList_ne hv
        have HY : Hid (Fm.eqb x u = false) := by rw [Hid, HX.out]; simp [hv]
        clear hv
        go_wp2_with fail
        go_ret
        exact ⟨ret_bool HY.out.symm, hW⟩
    · replace he : Tm.eqb x.atom u.atom = false := by simpa using he
      have HY : Hid (Fm.eqb x u = false) := by rw [Hid, HX.out, he]; simp
      rw [he]
      go_wp2_with fail
      go_ret
      exact ⟨ret_bool HY.out.symm, hW⟩
  · have ho1 : (x.op == u.op) = false := by simp [ho]
    have HY : Hid (Fm.eqb x u = false) := by rw [Hid, HX.out]; simp [ho]
    go_enter Try.func11, Try.ntmps11
    go_wp2_with fail
    go_ret
    exact ⟨ret_bool HY.out.symm, ((Below.refl _ _).alloc (Nat.le_refl _) _).alloc (by simp) _⟩

set_option maxHeartbeats 1000000 in
theorem toFm_of (x : Fm) (hp : ToFmS x.parts) : ToFm x := by
  intro S c0 c1 c2 c3 c4 w hr hbk
  have hbe := Fm.bulk_eq x
  obtain ⟨rfl, rfl, ⟨a, cap, rfl⟩, rfl, a2, cap2, rfl⟩ := Fm.at_form hr
  go_enter Try.func9, Try.ntmps9
  go_wp2_with fail
  refine (toTerm_any x.atom S _ _ _ (Tm.at_keep ?hk (Fm.at_atom hr)) (by omega)).mono ?_
  case hk => exact (((Keeps.refl _ _).alloc _).alloc _).alloc _
  rintro e w1 ⟨v, F, rfl, ho, hF, hb⟩
  obtain ⟨a', cap', rfl⟩ := Tm.sd_own_form ho
  obtain ⟨hc, hf⟩ := bcell hb
  have hz := hb.size
  have hk1 := ((((Keeps.refl S w).alloc _).alloc _).alloc _).trans (Keeps.all hb)
  simp only [World.size_alloc] at hc hf hz hF
  go_wp2_with fail
  refine (hp S _ _ (D.rd_keep ?hk2 _ _ (Fm.at_parts hr)) (by omega)).mono ?_
  case hk2 => exact ((hk1.setCell (fun _ q => by simp only at q; omega) _).setCell (fun _ q => by simp only at q; omega) _).setCell (fun _ q => by simp only at q; omega) _
  rintro e w2 ⟨v2, F2, rfl, ho2, hF2, hb2⟩
  obtain ⟨a2', cap2', rfl⟩ := Fm.sd_own_form ho2
  obtain ⟨hc2, hf2⟩ := bcell hb2
  have hz2 := hb2.size
  simp only [World.size_setCell] at hc2 hf2 hz2 hF2
  have g2 : w.heap.size + 1 + 1 < w1.heap.size := by omega
  have g1 : w.heap.size + 1 < w1.heap.size := by omega
  go_wp2_with fail
  refine bodyPost_ret (v := .agg #[.int .i64 x.op, .string x.atom.name, .slice a' x.atom.args.length cap', .string x.v, .slice a2' x.parts.length cap2']) (by simp [results, Try.results9, go_sem, hc2, hc, g1]) rfl ?_
  have hW1 : Below w.heap.size w w1 := (((Below.refl _ _).alloc (Nat.le_refl _) _).alloc (by simp) _).alloc (by simp; omega) _ |>.trans (hb.mono (by simp; omega))
  have hW2 := ((hW1.setCell (p := ⟨w.heap.size + 1 + 1, 1, none⟩) (by simp only; omega) (.string x.atom.name)).setCell (p := ⟨w.heap.size + 1 + 1, 2, none⟩) (by simp only; omega) (.slice a' x.atom.args.length cap')).setCell (p := ⟨w.heap.size + 1 + 1, 3, none⟩) (by simp only; omega) (.string x.v)
  have hW3 := hW2.trans (hb2.mono (by simp only [World.size_setCell]; omega))
  refine ⟨_, _, F, F2, rfl, D.own_keep _ _ _ ?o1 ho, D.own_keep _ _ _ ?o2 ho2, fun y hy => by have := hF y hy; omega, fun y hy => by have := hF2 y hy; omega, fun y hy hy' => by have := hF2 y hy'; have := D.own_lt _ _ _ ho y hy; omega, ?bel⟩
  case o1 => exact (((((((((((Keeps.refl _ _).set_lt hF (by simp) _).set_lt hF (by simp) _).set_lt hF (by simp) _).trans (Keeps.all hb2)).set_lt hF (by simp) _).set_lt hF (by simp) _).set_lt hF (by simp) _).set_lt hF (by simp) _).set_lt hF (by simp) _).set_lt hF (by simp) _)
  case o2 => exact ((((((Keeps.refl _ _).set_lt hF2 g2 _).set_lt hF2 g1 _).set_lt hF2 g1 _).set_lt hF2 g1 _).set_lt hF2 g1 _).set_lt hF2 g1 _
  case bel => exact (((((hW3.setCell (by simp only; omega) _).setCell (by simp only; omega) _).setCell (by simp only; omega) _).setCell (by simp only; omega) _).setCell (by simp only; omega) _).setCell (by simp only; omega) _
theorem szFm_any (x : Fm) : SzFm x := Fm.ind (P := SzFm) (fun o a v ps h => szFm_of (.node o a v ps) (szFmS_of ps h)) x
theorem toFm_any (x : Fm) : ToFm x := Fm.ind (P := ToFm) (fun o a v ps h => toFm_of (.node o a v ps) (toFmS_of ps h)) x
theorem toFmS_any (ts : List Fm) : ToFmS ts := toFmS_of ts fun t _ => toFm_any t
theorem szFmS_any (ts : List Fm) : SzFmS ts := szFmS_of ts fun t _ => szFm_any t
theorem eqFm_any (x : Fm) : EqFm x := Fm.ind (P := EqFm) (fun o a v ps h => eqFm_of (.node o a v ps) (eqFmS_of ps h)) x
theorem eqFmS_any (ts : List Fm) : EqFmS ts := eqFmS_of ts fun t _ => eqFm_any t

/-- the value is a formula that reads as x -/
def IsF (x : Fm) (v : Value) (w : World) : Prop := ∃ v2 v4, v = .agg #[.int .i64 x.op, .string x.atom.name, v2, .string x.v, v4] ∧ Fm.at (fun _ => True) w (.int .i64 x.op) (.string x.atom.name) v2 (.string x.v) v4 x
theorem IsF.form {x : Fm} {v : Value} {w : World} (h : IsF x v w) : ∃ a cap a2 cap2, v = .agg #[.int .i64 x.op, .string x.atom.name, .slice a x.atom.args.length cap, .string x.v, .slice a2 x.parts.length cap2] ∧ Fm.at (fun _ => True) w (.int .i64 x.op) (.string x.atom.name) (.slice a x.atom.args.length cap) (.string x.v) (.slice a2 x.parts.length cap2) x := by
  obtain ⟨v2, v4, rfl, h⟩ := h
  obtain ⟨-, -, ⟨a, cap, rfl⟩, -, a2, cap2, rfl⟩ := Fm.at_form h
  exact ⟨a, cap, a2, cap2, rfl, h⟩
theorem IsF.stable {x : Fm} {w : World} : ∀ v w1 w2, Below w.heap.size w w1 → Below w1.heap.size w1 w2 → IsF x v w1 → IsF x v w2 :=
  fun _ _ _ _ hb ⟨v2, v4, e, h⟩ => ⟨v2, v4, e, Fm.at_keep (Keeps.all hb) h⟩
theorem toFm_is {x : Fm} {S : Nat → Prop} {c0 c1 c2 c3 c4 : Value} {w : World} (h : Fm.at S w c0 c1 c2 c3 c4 x) (hb : x.bulk ≤ 1048576) :
    Calls Try.prog 9 #[.agg #[c0, c1, c2, c3, c4]] w (Yields w (IsF x)) :=
  (toFm_any x S c0 c1 c2 c3 c4 w h hb).mono fun _ _ ⟨v2, v4, _, _, he, ho, ho2, _, _, _, hbl⟩ => ⟨_, he, hbl, v2, v4, rfl, D.own_rd0 (Fm.own0 h), D.own_rd0 (Fm.own1 h), D.rd_mono (fun _ _ => trivial) _ _ (D.own_rd _ _ _ ho), D.own_rd0 (Fm.own3 h), D.rd_mono (fun _ _ => trivial) _ _ (D.own_rd _ _ _ ho2)⟩
theorem eqFm_refl {x : Fm} {S : Nat → Prop} {c0 c1 c2 c3 c4 d0 d1 d2 d3 d4 : Value} {w : World} (h : Fm.at S w c0 c1 c2 c3 c4 x) (k : Fm.at S w d0 d1 d2 d3 d4 x) : Calls Try.prog 11 #[.agg #[c0, c1, c2, c3, c4], .agg #[d0, d1, d2, d3, d4]] w (Gives w (.bool true)) :=
  (eqFm_any x x S _ _ _ _ _ _ _ _ _ _ w h k).mono fun _ _ ⟨he, hb⟩ => Gives.mk (by rw [he, (Fm.eqb_iff x x).2 rfl]) hb

theorem cellsLInt : Try.prog.cellsOf 3 = 1 := by kernel_rfl
theorem cellsLFormula : Try.prog.cellsOf 27 = 5 := by kernel_rfl
theorem cellsLFormulaS : Try.prog.cellsOf 25 = 1 := by kernel_rfl
theorem flen5 {α : Type} {l : List α} (h : l.length = 5) : ∃ a b c d e, l = [a, b, c, d, e] := by
  match l, h with
  | [a, b, c, d, e], _ => exact ⟨a, b, c, d, e, rfl⟩
section
variable {H : Type} {enc' : TypeId × Value → H} {w : World}
theorem read_fm : ∀ (fuel : Nat) (cs : List Value) (x : DataW H × List MemPlace), DataW.trod enc' Try.prog w 0 (fun _ => true) true fuel 27 cs = some x → ∃ t : Fm, CellsRd (fun _ => True) w cs t.cs := by
  intro fuel
  induction fuel using Nat.strongRecOn with
  | _ fuel ih =>
    intro cs x h
    obtain ⟨xs, n, rfl, rfl, hl, hlen, hf⟩ := DataW.trod_struct Try.underlying27 h
    rw [cellsLFormula] at hl
    obtain ⟨c0, c1, c2, c3, c4, rfl⟩ := flen5 hl
    have h0 := hf 0 _ rfl
    have h1 := hf 1 _ rfl
    have h2 := hf 2 _ rfl
    have h3 := hf 3 _ rfl
    have g0 : ∃ x0, xs[0]? = some x0 := ⟨_, List.getElem?_eq_getElem (by rw [hlen]; decide)⟩
    have g1 : ∃ x1, xs[1]? = some x1 := ⟨_, List.getElem?_eq_getElem (by rw [hlen]; decide)⟩
    have g2 : ∃ x2, xs[2]? = some x2 := ⟨_, List.getElem?_eq_getElem (by rw [hlen]; decide)⟩
    have g3 : ∃ x3, xs[3]? = some x3 := ⟨_, List.getElem?_eq_getElem (by rw [hlen]; decide)⟩
    obtain ⟨x0, g0⟩ := g0
    obtain ⟨x1, g1⟩ := g1
    obtain ⟨x2, g2⟩ := g2
    obtain ⟨x3, g3⟩ := g3
    rw [g0] at h0
    rw [g1] at h1
    rw [g2] at h2
    rw [g3] at h3
    obtain ⟨o, hp, -, hwf⟩ := DataW.trod_int Try.underlying3 h0
    have hp' : c0 = .int .i64 o := by simpa [cellsLInt] using hp
    obtain ⟨t, ht⟩ := read_term _ _ _ h1
    have ht' : CellsRd (fun _ => True) w [c1, c2] t.cs := by simpa [cellsLInt, cellsLTerm] using ht
    obtain ⟨s, hs, -, hsz⟩ := DataW.trod_string Try.underlying9 h2
    have hs' : c3 = .string s := by simpa [cellsLInt, cellsLTerm, cellsStr] using hs
    obtain ⟨v, ts, hv, hr⟩ := open_slOf Fm.wide (by decide) Try.underlying25 cellsLFormula (fun m cs' x' hm hx => ih m (by omega) cs' x' hx) h3
    have hv' : c4 = v := by simpa [cellsLInt, cellsLTerm, cellsStr, cellsLFormulaS] using hv
    subst hp' hs' hv'
    obtain ⟨m, us⟩ := t
    refine ⟨.node o (.node m us) s ts, ?_⟩
    rw [Tm.cs] at ht'
    rw [Fm.cs]
    have hw : -9223372036854775808 ≤ o ∧ o ≤ 9223372036854775807 := by
      have h := hwf
      simp only [Lit.wf, Bool.and_eq_true, decide_eq_true_eq] at h
      exact h
    exact ⟨by rw [D.rd]; exact ⟨rfl, hw.1, hw.2⟩, ht'.1, ht'.2.1, D.rd_str hsz, by rw [← Fm.sd, Fm.sd_slOf]; exact hr, trivial⟩
theorem open_Formula {r : Reach} {b0 : Nat} {v : Value} {d : DataW H} {p : List MemPlace} (hv : Value.okWide Try.prog w r b0 27 v) (h : DataW.Trod enc' Try.prog w 0 (fun _ => true) true 27 v d p) :
    ∃ c0 c1 c2 c3 c4 t, v = .agg #[c0, c1, c2, c3, c4] ∧ Fm.at (fun _ => True) w c0 c1 c2 c3 c4 t := by
  obtain ⟨cs, rfl, hsz⟩ := okWide_struct Try.underlying27 hv
  obtain ⟨fuel, hf⟩ := h
  obtain ⟨t, ht⟩ := read_fm fuel _ _ hf
  have hl : cs.toList.length = 5 := by simpa using hsz.trans cellsLFormula
  obtain ⟨c0, c1, c2, c3, c4, hc⟩ := flen5 hl
  have e : cs = #[c0, c1, c2, c3, c4] := by apply Array.toList_inj.1; rw [hc]
  subst e
  rw [Fm.cs_eq] at ht
  exact ⟨c0, c1, c2, c3, c4, t, rfl, ht.1, ht.2.1, ht.2.2.1, ht.2.2.2.1, ht.2.2.2.2.1⟩
end
end Go.Proofs.Ythpookgpmnbilaa
