/- Literals: as data, and how a law measures, copies and compares them. -/
import Derived.Test.YtoekonkpephocaaRows
import Derived.Test.YtoekonkpephocaaBr
import Derived.Test.YtoekonkpephocaaBrT
import Derived.Test.YtoekonkpephocaaSz
import Derived.Test.YtoekonkpephocaaTo
import Derived.Test.YtoekonkpephocaaEq
import Derived.WalkSpells
import Derived.WalkLawsBesides
namespace Go.Proofs.Ytoekonkpephocaa
set_option maxRecDepth 100000
open Go.RowKit Go.ChangeShapes Go.WideShapes

/-- a sign and an atom -/
structure Lit where
  pos : Bool
  atom : Tm
def Lit.cs (x : Lit) : List D := [.bit x.pos, .str x.atom.name, Tm.sd x.atom.args]
def Lit.bulk (x : Lit) : Nat := x.atom.bulk
def Lit.eqb (x y : Lit) : Bool := decide (x.pos = y.pos) && Tm.eqb x.atom y.atom
theorem Lit.eqb_iff (x y : Lit) : Lit.eqb x y = true ↔ x = y := by
  obtain ⟨p, a⟩ := x
  obtain ⟨q, b⟩ := y
  simp [Lit.eqb, Tm.eqb_iff]

/-- 3 cells read as an item -/
def Lit.at (S : Nat → Prop) (w : World) (c0 c1 c2 : Value) (x : Lit) : Prop := D.rd S w c0 (.bit x.pos) ∧ D.rd S w c1 (.str x.atom.name) ∧ D.rd S w c2 (Tm.sd x.atom.args)
theorem Lit.at_keep {S : Nat → Prop} {w w' : World} {c0 c1 c2 : Value} {x : Lit} (hk : Keeps S w w') (h : Lit.at S w c0 c1 c2 x) : Lit.at S w' c0 c1 c2 x :=
  ⟨D.rd_keep hk _ _ h.1, D.rd_keep hk _ _ h.2.1, D.rd_keep hk _ _ h.2.2⟩
theorem Lit.at_mono {S S' : Nat → Prop} {w : World} {c0 c1 c2 : Value} {x : Lit} (hs : ∀ b, S b → S' b) (h : Lit.at S w c0 c1 c2 x) : Lit.at S' w c0 c1 c2 x :=
  ⟨D.rd_mono hs _ _ h.1, D.rd_mono hs _ _ h.2.1, D.rd_mono hs _ _ h.2.2⟩
def Lit.sd (xs : List Lit) : D := slOf Lit.cs xs
theorem Lit.wide : Wide Lit.cs 3 := fun x => by cases x; simp [Lit.cs]
theorem Lit.sd_is (xs : List Lit) : Lit.sd xs = slOf Lit.cs xs := rfl
theorem Lit.sd_form {S : Nat → Prop} {w : World} {v : Value} {xs : List Lit} (h : D.rd S w v (Lit.sd xs)) : ∃ a cap, v = .slice a xs.length cap ∧ xs.length ≤ big ∧ xs.length ≤ cap := slOf_form (Lit.sd_is xs ▸ h)
theorem Lit.at_form {S : Nat → Prop} {w : World} {c0 c1 c2 : Value} {x : Lit} (h : Lit.at S w c0 c1 c2 x) : c0 = .bool x.pos ∧ c1 = .string x.atom.name ∧ (∃ a cap, c2 = .slice a x.atom.args.length cap) :=
  ⟨by have q := h.1; rw [D.rd] at q; first | exact q | exact q.1, by have q := h.2.1; rw [D.rd] at q; first | exact q | exact q.1, by obtain ⟨a, cap, e, _⟩ := Tm.sd_form h.2.2; exact ⟨a, cap, e⟩⟩
theorem Lit.cs_eq (x : Lit) : Lit.cs x = [(.bit x.pos), (.str x.atom.name), (Tm.sd x.atom.args)] := by cases x; simp [Lit.cs]
theorem Lit.sd_get {S : Nat → Prop} {w : World} {a : Option Addr} {n cap : Nat} {xs : List Lit} (h : D.rd S w (.slice a n cap) (Lit.sd xs)) (hne : xs ≠ []) : ∃ b off, a = some ⟨b, off, none⟩ ∧ S b ∧ b < w.heap.size ∧
    ∀ k (hk : k < xs.length), ∃ c0 c1 c2, w.cell? ⟨b, off + k * 3, none⟩ = some c0 ∧ w.cell? ⟨b, off + k * 3 + 1, none⟩ = some c1 ∧ w.cell? ⟨b, off + k * 3 + 2, none⟩ = some c2 ∧ Lit.at S w c0 c1 c2 xs[k] := by
  rw [Lit.sd_is] at h
  obtain ⟨b, off, q0, q1, q2, hr⟩ := slOf_get Lit.wide (by decide) h hne
  refine ⟨b, off, q0, q1, q2, fun k hk => ?_⟩
  obtain ⟨c0, r0, s0⟩ := hr k hk 0 (.bit xs[k].pos) (by rw [Lit.cs_eq]; rfl)
  obtain ⟨c1, r1, s1⟩ := hr k hk 1 (.str xs[k].atom.name) (by rw [Lit.cs_eq]; rfl)
  obtain ⟨c2, r2, s2⟩ := hr k hk 2 (Tm.sd xs[k].atom.args) (by rw [Lit.cs_eq]; rfl)
  exact ⟨c0, c1, c2, by rw [← r0]; congr 2, by rw [← r1]; congr 2, by rw [← r2]; congr 2, s0, s1, s2⟩
def Lit.css (xs : List Lit) : List D := xs.flatMap Lit.cs
theorem Lit.css_flat (xs : List Lit) : Lit.css xs = xs.flatMap Lit.cs := rfl
theorem Lit.css_length (xs : List Lit) : (Lit.css xs).length = xs.length * 3 := by rw [Lit.css_flat]; exact flat_length Lit.wide xs
theorem Lit.css_ne {xs : List Lit} (h : xs ≠ []) : Lit.css xs ≠ [] := by rw [Lit.css_flat]; exact flat_ne Lit.wide (by decide) h
theorem Lit.css_take_succ (xs : List Lit) (k : Nat) (hk : k < xs.length) : Lit.css (xs.take (k + 1)) = Lit.css (xs.take k) ++ [(.bit xs[k].pos), (.str xs[k].atom.name), (Tm.sd xs[k].atom.args)] := by rw [Lit.css_flat, Lit.css_flat, flat_take_succ _ _ hk, Lit.cs_eq]
theorem Lit.sd_css (xs : List Lit) : Lit.sd xs = .sl xs.length (Lit.css xs) := by rw [Lit.sd_is, slOf, Lit.css_flat]
def Lit.bulks : List Lit → Nat
  | [] => 0
  | t :: ts => Lit.bulk t + Lit.bulks ts
def Lit.eqbs : List Lit → List Lit → Bool
  | [], [] => true
  | t :: ts, u :: us => Lit.eqb t u && Lit.eqbs ts us
  | _, _ => false
theorem Lit.eqbs_iff : ∀ ts us : List Lit, Lit.eqbs ts us = true ↔ ts = us
  | [], [] => by simp [Lit.eqbs]
  | [], _ :: _ => by simp [Lit.eqbs]
  | _ :: _, [] => by simp [Lit.eqbs]
  | t :: ts, u :: us => by simp [Lit.eqbs, Lit.eqb_iff, Lit.eqbs_iff ts us]
theorem Lit.bulks_le : ∀ (ts : List Lit) (k : Nat), Lit.bulks (ts.take k) ≤ Lit.bulks ts
  | [], k => by simp
  | t :: ts, 0 => by simp [Lit.bulks]
  | t :: ts, k + 1 => by
    have := Lit.bulks_le ts k
    simp only [List.take_succ_cons, Lit.bulks]; omega
theorem Lit.bulks_take : ∀ (ts : List Lit) (k : Nat) (hk : k < ts.length), Lit.bulks (ts.take (k + 1)) = Lit.bulks (ts.take k) + Lit.bulk ts[k]
  | [], k, hk => absurd hk (by simp)
  | t :: ts, 0, _ => by simp [Lit.bulks]
  | t :: ts, k + 1, hk => by
    have := Lit.bulks_take ts k (by simpa using hk)
    simp only [List.take_succ_cons, Lit.bulks, this, List.getElem_cons_succ]; omega
theorem Lit.bulk_mem {ts : List Lit} {t : Lit} (h : t ∈ ts) : Lit.bulk t ≤ Lit.bulks ts := by
  induction ts with
  | nil => cases h
  | cons a ts ih =>
    rw [Lit.bulks]
    rcases List.mem_cons.1 h with rfl | h
    · omega
    · have := ih h; omega
theorem Lit.eqbs_length {ts us : List Lit} (h : ts.length ≠ us.length) : Lit.eqbs ts us = false := by
  rw [Bool.eq_false_iff]; intro e; exact h (by rw [(Lit.eqbs_iff _ _).1 e])
theorem Lit.eqbs_at {ts us : List Lit} {k : Nat} (h1 : k < ts.length) (h2 : k < us.length) (hn : Lit.eqb ts[k] us[k] = false) : Lit.eqbs ts us = false := by
  rw [Bool.eq_false_iff]; intro e
  have := (Lit.eqbs_iff _ _).1 e
  subst this
  rw [(Lit.eqb_iff _ _).2 rfl] at hn
  exact absurd hn (by simp)
theorem Lit.eqbs_take {ts us : List Lit} {k : Nat} (h1 : k < ts.length) (h2 : k < us.length) (h : ts.take k = us.take k) (hn : Lit.eqb ts[k] us[k] = true) : ts.take (k + 1) = us.take (k + 1) := by
  rw [List.take_succ_eq_append_getElem h1, List.take_succ_eq_append_getElem h2, h, (Lit.eqb_iff _ _).1 hn]
theorem Lit.own0 {S : Nat → Prop} {w w' : World} {c0 c1 c2 : Value} {x : Lit} (_h : Lit.at S w c0 c1 c2 x) : D.own w' (.bool x.pos) (.bit x.pos) [] := by rw [D.own]; exact ⟨rfl, rfl⟩
theorem Lit.own1 {S : Nat → Prop} {w w' : World} {c0 c1 c2 : Value} {x : Lit} (h : Lit.at S w c0 c1 c2 x) : D.own w' (.string x.atom.name) (.str x.atom.name) [] := D.own_str (by have q := h.2.1; rw [D.rd] at q; exact q.2)
def SzLit (x : Lit) : Prop := ∀ (S : Nat → Prop) (c0 c1 c2 : Value) (left : Int) (w : World), Lit.at S w c0 c1 c2 x → 0 ≤ left → left ≤ 1048576 →
  Calls Try.prog 134 #[.agg #[c0, c1, c2], .int .i64 left] w fun e w' => e = .returned (.int .i64 (after (Lit.bulk x) left)) ∧ Below w.heap.size w w'
def SzLitS (ts : List Lit) : Prop := ∀ (S : Nat → Prop) (v : Value) (left : Int) (w : World), D.rd S w v (Lit.sd ts) → 0 ≤ left → left ≤ 1048576 →
  Calls Try.prog 99 #[v, .int .i64 left] w fun e w' => e = .returned (.int .i64 (after (ts.length + Lit.bulks ts) left)) ∧ Below w.heap.size w w'
def MadeLit (x : Lit) (w : World) (e : Ending) (w' : World) : Prop := ∃ v2 F2, e = .returned (.agg #[.bool x.pos, .string x.atom.name, v2]) ∧ D.own w' v2 (Tm.sd x.atom.args) F2 ∧ (∀ y ∈ F2, w.heap.size ≤ y) ∧ Below w.heap.size w w'
def ToLit (x : Lit) : Prop := ∀ (S : Nat → Prop) (c0 c1 c2 : Value) (w : World), Lit.at S w c0 c1 c2 x → Lit.bulk x ≤ 1048576 → Calls Try.prog 137 #[.agg #[c0, c1, c2]] w (MadeLit x w)
def MadeLitS (ts : List Lit) (w : World) (e : Ending) (w' : World) : Prop := ∃ v F, e = .returned v ∧ D.own w' v (Lit.sd ts) F ∧ (∀ x ∈ F, w.heap.size ≤ x) ∧ Below w.heap.size w w'
def ToLitS (ts : List Lit) : Prop := ∀ (S : Nat → Prop) (v : Value) (w : World), D.rd S w v (Lit.sd ts) → ts.length + Lit.bulks ts ≤ 1048576 → Calls Try.prog 102 #[v] w (MadeLitS ts w)
def EqLit (t : Lit) : Prop := ∀ (u : Lit) (S : Nat → Prop) (c0 c1 c2 d0 d1 d2 : Value) (w : World), Lit.at S w c0 c1 c2 t → Lit.at S w d0 d1 d2 u → Calls Try.prog 141 #[.agg #[c0, c1, c2], .agg #[d0, d1, d2]] w fun e w' => e = .returned (.bool (Lit.eqb t u)) ∧ Below w.heap.size w w'
def EqLitS (ts : List Lit) : Prop := ∀ (us : List Lit) (S : Nat → Prop) (v u : Value) (w : World), D.rd S w v (Lit.sd ts) → D.rd S w u (Lit.sd us) → Calls Try.prog 105 #[v, u] w fun e w' => e = .returned (.bool (Lit.eqbs ts us)) ∧ Below w.heap.size w w'
set_option maxHeartbeats 400000 in
theorem szLitS_of (ts : List Lit) (h : ∀ t ∈ ts, SzLit t) : SzLitS ts := by
  intro S v left w hr h0 h1
  obtain ⟨a, cap, rfl, hlen, hcap⟩ := Lit.sd_form hr
  unfold big at hlen
  by_cases hl : left < ts.length
  · have hx : left < (ts.length + Lit.bulks ts : Nat) := by omega
    have HX := hid (after_neg hx); clear hx
    go_enter Try.func99, Try.ntmps99
    go_wp2_with fail
    go_ret
    exact ⟨ret_i64 HX.out.symm, Below.refl _ _⟩
  · go_enter Try.func99, Try.ntmps99
    go_wp2_with fail
    go_loopw [1, 5] (fun l i wr => ∃ (k : Nat) (x : Int), k ≤ ts.length ∧ i = .int .i64 k ∧ l = .int .i64 x ∧ 0 ≤ x ∧ x ≤ 1048576 ∧ Hid (x = left - (ts.length + Lit.bulks (ts.take k) : Nat)) ∧ Below w.heap.size w wr) (fun _ i _ => ts.length - (intOf i).toNat)
    case atStart => exact ⟨0, _, Nat.zero_le _, rfl, rfl, by omega, by omega, by simp [Hid, Lit.bulks], Below.refl _ _⟩
    case round =>
      obtain ⟨k, x, hk, rfl, rfl, hx0, hx1, HX, hb⟩ := hrel
      by_cases hlt : k < ts.length
      · have hne : ts ≠ [] := by intro e; subst e; simp at hlt
        obtain ⟨b, off, rfl, hS, hbl, hrr⟩ := Lit.sd_get hr hne
        obtain ⟨c0, c1, c2, q0, q1, q2, qx⟩ := hrr k hlt
        have q0' := (hb.cell (p := ⟨b, off + k * 3, none⟩) hbl).trans q0
        have q1' := (hb.cell (p := ⟨b, off + k * 3 + 1, none⟩) hbl).trans q1
        have q2' := (hb.cell (p := ⟨b, off + k * 3 + 2, none⟩) hbl).trans q2
        have qx' := Lit.at_keep (Keeps.all hb) qx
        have hmem := h ts[k] (List.getElem_mem hlt)
        have hstep := hid (Lit.bulks_take ts k hlt)
        have hstle := hid (Lit.bulks_le ts (k + 1))
        clear q0 q1 q2 qx hr hrr
        go_wp2_with fail
        refine (hmem S _ _ _ _ _ qx' hx0 hx1).mono ?_
        rintro e w' ⟨rfl, hb'⟩
        by_cases hl2 : x < Lit.bulk ts[k]
        · have HZ : Hid (after (ts.length + Lit.bulks ts) left = -1) := after_neg (by have := HX.out; have := hstep.out; have := hstle.out; omega)
          rw [after_neg hl2]
          go_wp2_with fail
          go_ret
          exact ⟨ret_i64 HZ.out.symm, hb.trans (hb'.mono hb.size)⟩
        · have hge : (Lit.bulk ts[k] : Int) ≤ x := by omega
          have HZ : Hid (x - (Lit.bulk ts[k] : Nat) = left - (ts.length + Lit.bulks (ts.take (k + 1)) : Nat)) := by
            have := HX.out; have := hstep.out; show (_ : Int) = _; omega
          rw [after_pos hge]
          go_wp2_with fail
          go_roundw
          case rel => exact ⟨k + 1, _, by omega, by go_num, rfl, by omega, by omega, HZ, hb.trans (hb'.mono hb.size)⟩
          case measure => simp [intOf]; omega
      · obtain rfl : k = ts.length := by omega
        have HY : Hid (x = after (ts.length + Lit.bulks ts) left) := by
          have h := HX.out
          rw [List.take_length] at h
          rw [after_pos (by omega)]; exact h
        go_wp2_with fail
        go_ret
        exact ⟨ret_i64 HY.out, hb⟩
theorem infoLiteral : (Try.prog.info? 126).map (fun i => (i.zero, i.size, i.bytes)) = some (some (.agg #[.bool false, .string ByteArray.empty, .slice none 0 0]), 3, 48) := by kernel_rfl
theorem Lit.sd_own_form {w : World} {v : Value} {ts : List Lit} {F : List Nat} (h : D.own w v (Lit.sd ts) F) : ∃ a cap, v = .slice a ts.length cap := by
  rw [Lit.sd_css, D.own] at h
  obtain ⟨a, cap, e, _⟩ := h
  exact ⟨a, cap, e⟩
set_option maxHeartbeats 400000 in
theorem toLitS_of (ts : List Lit) (h : ∀ t ∈ ts, ToLit t) : ToLitS ts := by
  intro S v w hr hbk
  obtain ⟨a, cap, rfl, hlen, hcap⟩ := Lit.sd_form hr
  have hmk := run_mk (P := Try.prog) Try.underlying86 infoLiteral ts.length (by omega) hlen
  unfold big at hlen
  go_enter Try.func102, Try.ntmps102
  go_wp2_with fail
  go_loopw [4] (fun i wr => ∃ (k : Nat) (F : List Nat), k ≤ ts.length ∧ i = .int .i64 k ∧ Filled wr w.heap.size 126 (ts.length * 3) (Lit.css (ts.take k)) F ∧ (∀ x ∈ F, w.heap.size < x) ∧ Below w.heap.size w wr) (fun i _ => ts.length - (intOf i).toNat)
  case atStart =>
    refine ⟨0, [], Nat.zero_le _, rfl, ?_, by simp, (Below.refl _ _).alloc (Nat.le_refl _) _⟩
    have := Filled.made w (madeCells #[Value.bool false, .string ByteArray.empty, .slice none 0 0] (ts.length * 3)) 126
    rw [size_madeCells] at this
    simpa [Lit.css] using this
  case round =>
    obtain ⟨k, F, hk, rfl, hfl, hF, hb⟩ := hrel
    by_cases hlt : k < ts.length
    · have hne : ts ≠ [] := by intro e; subst e; simp at hlt
      obtain ⟨b, off, rfl, hS, hbl, hrr⟩ := Lit.sd_get hr hne
      obtain ⟨c0, c1, c2, q0, q1, q2, qx⟩ := hrr k hlt
      have q0' := (hb.cell (p := ⟨b, off + k * 3, none⟩) hbl).trans q0
      have q1' := (hb.cell (p := ⟨b, off + k * 3 + 1, none⟩) hbl).trans q1
      have q2' := (hb.cell (p := ⟨b, off + k * 3 + 2, none⟩) hbl).trans q2
      replace qx := Lit.at_keep (Keeps.all hb) qx
      have hmem := h ts[k] (List.getElem_mem hlt)
      have hbk' := Lit.bulk_mem (List.getElem_mem hlt)
      clear q0 q1 q2 hr hrr
      go_wp2_with fail
      refine (hmem S _ _ _ _ qx (by omega)).mono ?_
      rintro e w1 ⟨v2, G2, rfl, ho2, hG2, hb1⟩
      obtain ⟨a2, ca2, rfl⟩ := Tm.sd_own_form ho2
      have hfl1 := hfl.keep (Keeps.all hb1)
      obtain ⟨x0, hx0⟩ := hfl1.cell (p := k * 3) (by omega)
      obtain ⟨x1, hx1⟩ := hfl1.cell (p := k * 3 + 1) (by omega)
      obtain ⟨x2, hx2⟩ := hfl1.cell (p := k * 3 + 2) (by omega)
      have hf0 := hfl1.free (k * 3)
      have hf1 := hfl1.free (k * 3 + 1)
      have hf2 := hfl1.free (k * 3 + 2)
      go_wp2_with fail
      go_roundw
      case rel =>
        have hB := hb.size
        have hBl := hfl.lt
        have hG2' : w.heap.size ∉ G2 := fun q => by have := hG2 _ q; omega
        refine ⟨k + 1, F ++ (G2), by omega, by go_num, ?_, fun x hx => ?_, (((hb.trans (hb1.mono hB)).setCell (Nat.le_refl _) _).setCell (Nat.le_refl _) _).setCell (Nat.le_refl _) _⟩
        · rw [Lit.css_take_succ ts k hlt]
          have hl : (Lit.css (ts.take k)).length = k * 3 := by rw [Lit.css_length, List.length_take, Nat.min_eq_left hk]
          have hd2 : ∀ x ∈ F, x ∉ G2 := fun x hx hx' => by have := hG2 x hx'; have := hfl.ltF x hx; omega
          have s0 := hfl1.set (p := k * 3) (v := .bool ts[k].pos) (d := .bit ts[k].pos) (G := []) (by exact hl.symm) (by omega) (Lit.own0 qx) (by simp) (by simp)
          have s1 := s0.set (p := k * 3 + 1) (v := .string ts[k].atom.name) (d := .str ts[k].atom.name) (G := []) (by simp [hl]) (by omega) (Lit.own1 qx) (by simp) (by simp)
          have s2 := s1.set (p := k * 3 + 2) (v := .slice a2 ts[k].atom.args.length ca2) (d := Tm.sd ts[k].atom.args) (G := G2) (by simp [hl]) (by omega) (D.own_keep _ _ _ (((Keeps.refl _ _).setCell (fun q _ => hG2' q) _).setCell (fun q _ => hG2' q) _) ho2) hG2' (by simpa using hd2)
          simpa using s2
        · rcases List.mem_append.1 hx with hx | hx
          · exact hF x hx
          · have := hG2 x hx; omega
      case measure => simp [intOf]; omega
    · obtain rfl : k = ts.length := by omega
      go_wp2_with fail
      go_ret
      rw [List.take_length] at hfl
      by_cases hne : ts = []
      · subst hne
        refine ⟨_, [], rfl, ?_, by simp, hb⟩
        have := D.own_nil (w := wr) (some ⟨w.heap.size, 0, none⟩) 0
        rw [Lit.sd_css]; simpa [Lit.css] using this
      · exact ⟨_, _ :: F, rfl, by rw [Lit.sd_css]; exact hfl.own (Lit.css_ne hne) (by unfold big; omega) (Nat.le_refl _), fun x hx => by rcases List.mem_cons.1 hx with rfl | hx; exact Nat.le_refl _; exact Nat.le_of_lt (hF x hx), hb⟩
set_option maxHeartbeats 400000 in
theorem eqLitS_of (ts : List Lit) (h : ∀ t ∈ ts, EqLit t) : EqLitS ts := by
  intro us S v u w hr hr'
  obtain ⟨a, cap, rfl, hlen, hcap⟩ := Lit.sd_form hr
  obtain ⟨a', cap', rfl, hlen', hcap'⟩ := Lit.sd_form hr'
  unfold big at hlen hlen'
  by_cases hll : ts.length = us.length
  · go_enter Try.func105, Try.ntmps105
    go_wp2_with fail
    go_loopw [5] (fun i wr => ∃ (k : Nat), k ≤ ts.length ∧ i = .int .i64 k ∧ Hid (ts.take k = us.take k) ∧ Below w.heap.size w wr) (fun i _ => ts.length - (intOf i).toNat)
    case atStart => exact ⟨0, Nat.zero_le _, rfl, by simp [Hid], Below.refl _ _⟩
    case round =>
      obtain ⟨k, hk, rfl, HX, hb⟩ := hrel
      by_cases hlt : k < ts.length
      · have hne : ts ≠ [] := by intro e; subst e; simp at hlt
        have hlt' : k < us.length := by omega
        have hne' : us ≠ [] := by intro e; subst e; simp at hlt'
        obtain ⟨b, off, rfl, hS, hbl, hrr⟩ := Lit.sd_get hr hne
        obtain ⟨b', off', rfl, hS', hbl', hrr'⟩ := Lit.sd_get hr' hne'
        obtain ⟨c0, c1, c2, q0, q1, q2, qx⟩ := hrr k hlt
        obtain ⟨d0, d1, d2, r0, r1, r2, rx⟩ := hrr' k hlt'
        replace q0 := (hb.cell (p := ⟨b, off + k * 3, none⟩) hbl).trans q0
        replace q1 := (hb.cell (p := ⟨b, off + k * 3 + 1, none⟩) hbl).trans q1
        replace q2 := (hb.cell (p := ⟨b, off + k * 3 + 2, none⟩) hbl).trans q2
        replace r0 := (hb.cell (p := ⟨b', off' + k * 3, none⟩) hbl').trans r0
        replace r1 := (hb.cell (p := ⟨b', off' + k * 3 + 1, none⟩) hbl').trans r1
        replace r2 := (hb.cell (p := ⟨b', off' + k * 3 + 2, none⟩) hbl').trans r2
        replace qx := Lit.at_keep (Keeps.all hb) qx
        replace rx := Lit.at_keep (Keeps.all hb) rx
        have hmem := h ts[k] (List.getElem_mem hlt)
        clear hr hrr hr' hrr' 
        go_wp2_with fail
        have hb0 : b < wr.heap.size := Nat.lt_of_lt_of_le hbl hb.size
        have hb0' : b' < wr.heap.size := Nat.lt_of_lt_of_le hbl' hb.size
        refine wp_region_B [fun v _ => v = .slice (some ⟨b, off, none⟩) ts.length cap, fun v _ => v = .int .i64 k, fun v _ => v = .pointer (some ⟨b, off + k * 3, none⟩), fun v _ => v = .agg #[c0, c1, c2], fun v _ => v = .slice (some ⟨b', off', none⟩) us.length cap', fun v _ => v = .int .i64 k, fun v _ => v = .pointer (some ⟨b', off' + k * 3, none⟩), fun v _ => v = .agg #[d0, d1, d2], fun v _ => v = .bool (Lit.eqb ts[k] us[k]), fun v _ => v = .bool (!Lit.eqb ts[k] us[k])] _ (fun V => by simp [putAll, Act.put]; rfl) (by kernel_rfl) (by decide) (by simp) (by kernel_rfl) ?_ ?_ ?_
        · intro F hF
          simp only [List.mem_cons, List.not_mem_nil, or_false] at hF
          rcases hF with rfl | rfl | rfl | rfl | rfl | rfl | rfl | rfl | rfl | rfl
          · exact stable_eq
          · exact stable_eq
          · exact stable_eq
          · exact stable_eq
          · exact stable_eq
          · exact stable_eq
          · exact stable_eq
          · exact stable_eq
          · exact stable_eq
          · exact stable_eq
        · refine ⟨?_, ?_, ?_, ?_, ?_, ?_, ?_, ?_, ?_, ?_, trivial⟩
          · intro V w1 hbR _
            unfold Does
            go_simp
            exact ⟨Below.refl _ _, rfl⟩
          · intro V w1 hbR _
            unfold Does
            go_simp
            exact ⟨Below.refl _ _, rfl⟩
          · intro V w1 hbR ⟨f0, f1, _⟩
            replace f0 : V 0 = .slice (some ⟨b, off, none⟩) ts.length cap := f0
            replace f1 : V 1 = .int .i64 k := f1
            unfold Does
            go_simp
            exact ⟨Below.refl _ _, rfl⟩
          · intro V w1 hbR ⟨f2, _⟩
            replace f2 : V 2 = .pointer (some ⟨b, off + k * 3, none⟩) := f2
            obtain ⟨hc, hf⟩ := bcell hbR
            try simp only [World.size_alloc, World.size_setCell] at hc hf
            unfold Does
            go_simp
            exact ⟨Below.refl _ _, rfl⟩
          · intro V w1 hbR _
            unfold Does
            go_simp
            exact ⟨Below.refl _ _, rfl⟩
          · intro V w1 hbR _
            unfold Does
            go_simp
            exact ⟨Below.refl _ _, rfl⟩
          · intro V w1 hbR ⟨f4, f5, _⟩
            replace f4 : V 4 = .slice (some ⟨b', off', none⟩) us.length cap' := f4
            replace f5 : V 5 = .int .i64 k := f5
            unfold Does
            go_simp
            exact ⟨Below.refl _ _, rfl⟩
          · intro V w1 hbR ⟨f6, _⟩
            replace f6 : V 6 = .pointer (some ⟨b', off' + k * 3, none⟩) := f6
            obtain ⟨hc, hf⟩ := bcell hbR
            try simp only [World.size_alloc, World.size_setCell] at hc hf
            unfold Does
            go_simp
            exact ⟨Below.refl _ _, rfl⟩
          · intro V w1 hbR ⟨f3, f7, _⟩
            replace f3 : V 3 = .agg #[c0, c1, c2] := f3
            replace f7 : V 7 = .agg #[d0, d1, d2] := f7
            obtain ⟨hc, hf⟩ := bcell hbR
            try simp only [World.size_alloc, World.size_setCell] at hc hf
            unfold Does
            go_simp
            refine (hmem us[k] S _ _ _ _ _ _ _ (Lit.at_keep (Keeps.all hbR) qx) (Lit.at_keep (Keeps.all hbR) rx)).mono ?_; rintro e w2 ⟨rfl, hb2⟩; exact ⟨_, rfl, hb2, rfl⟩
          · intro V w1 hbR ⟨f8, _⟩
            replace f8 : V 8 = .bool (Lit.eqb ts[k] us[k]) := f8
            unfold Does
            go_simp
            exact ⟨Below.refl _ _, rfl⟩
        intro V w1 hbR hfR
        obtain ⟨f0, f1, f2, f3, f4, f5, f6, f7, f8, f9, _⟩ := hfR
        replace f0 : V 0 = .slice (some ⟨b, off, none⟩) ts.length cap := f0
        replace f1 : V 1 = .int .i64 k := f1
        replace f2 : V 2 = .pointer (some ⟨b, off + k * 3, none⟩) := f2
        replace f3 : V 3 = .agg #[c0, c1, c2] := f3
        replace f4 : V 4 = .slice (some ⟨b', off', none⟩) us.length cap' := f4
        replace f5 : V 5 = .int .i64 k := f5
        replace f6 : V 6 = .pointer (some ⟨b', off' + k * 3, none⟩) := f6
        replace f7 : V 7 = .agg #[d0, d1, d2] := f7
        replace f8 : V 8 = .bool (Lit.eqb ts[k] us[k]) := f8
        replace f9 : V 9 = .bool (!Lit.eqb ts[k] us[k]) := f9
        simp only [f0, f1, f2, f3, f4, f5, f6, f7, f8, f9]
        clear f0 f1 f2 f3 f4 f5 f6 f7 f8 f9
        by_cases he : Lit.eqb ts[k] us[k] = true
        · have HZ := hid (Lit.eqbs_take hlt hlt' HX.out he)
          rw [he]
          go_wp2_with fail
          go_roundw
          case rel => exact ⟨k + 1, by omega, by go_num, HZ, hb.trans (hbR.mono hb.size)⟩
          case measure => simp [intOf]; omega
        · have he' : Lit.eqb ts[k] us[k] = false := by simpa using he
          have HZ := hid (Lit.eqbs_at hlt hlt' he')
          rw [he']
          clear he he'
          go_wp2_with fail
          go_ret
          exact ⟨ret_bool HZ.out.symm, hb.trans (hbR.mono hb.size)⟩
      · obtain rfl : k = ts.length := by omega
        have HY : Hid (Lit.eqbs ts us = true) := by
          have := HX.out
          rw [List.take_length, hll, List.take_length] at this
          rw [Hid, Lit.eqbs_iff]; exact this
        go_wp2_with fail
        go_ret
        exact ⟨ret_bool HY.out.symm, hb⟩
  · have HY := hid (Lit.eqbs_length hll)
    go_enter Try.func105, Try.ntmps105
    go_wp2_with fail
    go_ret
    exact ⟨ret_bool HY.out.symm, Below.refl _ _⟩

theorem Lit.at_atom {S : Nat → Prop} {w : World} {c0 c1 c2 : Value} {x : Lit} (h : Lit.at S w c0 c1 c2 x) : Tm.at S w c1 c2 x.atom := h.2

set_option maxHeartbeats 400000 in
theorem szLit_any (x : Lit) : SzLit x := by
  intro S c0 c1 c2 left w hr h0 h1
  obtain ⟨rfl, rfl, a, cap, rfl⟩ := Lit.at_form hr
  have hB : Below w.heap.size w (w.alloc (.cells #[.bool x.pos, .string x.atom.name, .slice a x.atom.args.length cap] 147)) := (Below.refl _ _).alloc (Nat.le_refl _) _
  replace hr := Tm.at_keep (Keeps.all hB) (Lit.at_atom hr)
  rw [Lit.bulk]
  go_enter Try.func134, Try.ntmps134
  go_wp2_with fail
  refine (szTerm_any x.atom _ _ _ _ _ hr h0 h1).mono ?_
  rintro e w' ⟨rfl, hb⟩
  by_cases hl : left < x.atom.bulk
  · have HX := hid (after_neg hl)
    rw [after_neg hl]
    go_wp2_with fail
    go_ret
    exact ⟨ret_i64 HX.out.symm, hB.trans (hb.mono hB.size)⟩
  · have hge : (x.atom.bulk : Int) ≤ left := by omega
    have HX := hid (after_pos hge)
    rw [after_pos hge]
    go_wp2_with fail
    go_ret
    exact ⟨ret_i64 HX.out.symm, hB.trans (hb.mono hB.size)⟩

set_option maxHeartbeats 400000 in
theorem toLit_any (x : Lit) : ToLit x := by
  intro S c0 c1 c2 w hr hbk
  obtain ⟨rfl, rfl, a, cap, rfl⟩ := Lit.at_form hr
  rw [Lit.bulk] at hbk
  replace hr := (Lit.at_atom hr)
  go_enter Try.func137, Try.ntmps137
  go_wp2_with fail
  refine (toTerm_any x.atom S _ _ _ (Tm.at_keep ?hk hr) hbk).mono ?_
  case hk => exact (((Keeps.refl _ _).alloc _).alloc _).alloc _
  rintro e w1 ⟨v, F, rfl, ho, hF, hb⟩
  obtain ⟨a', cap', rfl⟩ := Tm.sd_own_form ho
  obtain ⟨hc, hf⟩ := bcell hb
  have hz := hb.size
  simp only [World.size_alloc] at hc hf hz hF
  go_wp2_with fail
  refine bodyPost_ret (v := .agg #[.bool x.pos, .string x.atom.name, .slice a' x.atom.args.length cap']) (by simp [results, Try.results137, go_sem, hc]) rfl ?_
  refine ⟨_, F, rfl, D.own_keep _ _ _ ?_ ho, fun x hx => by have := hF x hx; omega, ?_⟩
  · exact ((((((Keeps.refl _ _).set_lt hF (by simp) _).set_lt hF (by simp) _).set_lt hF (by simp) _).set_lt hF (by simp) _).set_lt hF (by simp) _)
  · exact (((((((((Below.refl _ _).alloc (Nat.le_refl _) _).alloc (by simp) _).alloc (by simp; omega) _).trans (hb.mono (by simp; omega))).setCell (by simp; omega) _).setCell (by simp; omega) _).setCell (by simp) _).setCell (by simp) _).setCell (by simp) _

/-- the value is a literal that reads as x -/
def IsL (x : Lit) (v : Value) (w : World) : Prop := ∃ v', v = .agg #[.bool x.pos, .string x.atom.name, v'] ∧ Lit.at (fun _ => True) w (.bool x.pos) (.string x.atom.name) v' x
theorem IsL.form {x : Lit} {v : Value} {w : World} (h : IsL x v w) : ∃ a cap, v = .agg #[.bool x.pos, .string x.atom.name, .slice a x.atom.args.length cap] ∧ Lit.at (fun _ => True) w (.bool x.pos) (.string x.atom.name) (.slice a x.atom.args.length cap) x := by
  obtain ⟨v', rfl, h⟩ := h
  obtain ⟨-, -, a, cap, rfl⟩ := Lit.at_form h
  exact ⟨a, cap, rfl, h⟩
theorem IsL.stable {x : Lit} {w : World} : ∀ v w1 w2, Below w.heap.size w w1 → Below w1.heap.size w1 w2 → IsL x v w1 → IsL x v w2 :=
  fun _ _ _ _ hb ⟨v', e, h⟩ => ⟨v', e, Lit.at_keep (Keeps.all hb) h⟩
theorem toLit_is {x : Lit} {S : Nat → Prop} {c0 c1 c2 : Value} {w : World} (h : Lit.at S w c0 c1 c2 x) (hb : x.bulk ≤ 1048576) :
    Calls Try.prog 137 #[.agg #[c0, c1, c2]] w (Yields w (IsL x)) :=
  (toLit_any x S c0 c1 c2 w h hb).mono fun _ _ ⟨v, _, he, ho, _, hbl⟩ => ⟨_, he, hbl, v, rfl, by rw [D.rd], D.rd_str (Tm.at_form h.2).2.1, D.rd_mono (fun _ _ => trivial) _ _ (D.own_rd _ _ _ ho)⟩

set_option maxHeartbeats 400000 in
theorem eqLit_any (x : Lit) : EqLit x := by
  intro u S c0 c1 c2 d0 d1 d2 w hr hr'
  obtain ⟨p, t⟩ := x
  obtain ⟨q, u⟩ := u
  obtain ⟨rfl, rfl, a, cap, rfl⟩ := Lit.at_form hr
  obtain ⟨rfl, rfl, a', cap', rfl⟩ := Lit.at_form hr'
  replace hr := Lit.at_atom hr
  replace hr' := Lit.at_atom hr'
  simp only at hr hr' ⊢
  cases p <;> cases q
  case false.true =>
    have HX : Hid (Lit.eqb ⟨false, t⟩ ⟨true, u⟩ = false) := by simp [Hid, Lit.eqb]
    go_enter Try.func141, Try.ntmps141
    go_wp2_with fail
    go_ret
    exact ⟨ret_bool HX.out.symm, ((Below.refl _ _).alloc (Nat.le_refl _) _).alloc (by simp) _⟩
  case true.false =>
    have HX : Hid (Lit.eqb ⟨true, t⟩ ⟨false, u⟩ = false) := by simp [Hid, Lit.eqb]
    go_enter Try.func141, Try.ntmps141
    go_wp2_with fail
    go_ret
    exact ⟨ret_bool HX.out.symm, ((Below.refl _ _).alloc (Nat.le_refl _) _).alloc (by simp) _⟩
  all_goals
    first
    | have HX : Hid (Lit.eqb ⟨true, t⟩ ⟨true, u⟩ = Tm.eqb t u) := by simp [Hid, Lit.eqb]
      have HI : Hid (Lit.eqb ⟨true, t⟩ ⟨true, u⟩ = Lit.eqb ⟨true, t⟩ ⟨true, u⟩) := rfl
    | skip
    go_enter Try.func141, Try.ntmps141
    go_wp2_with fail
    refine (eqTerm_any t u S _ _ _ _ _ (Tm.at_keep (((Keeps.refl _ _).alloc _).alloc _) hr) (Tm.at_keep (((Keeps.refl _ _).alloc _).alloc _) hr')).mono ?_
    rintro e w1 ⟨rfl, hb⟩
    have hb' : Below w.heap.size w w1 := (((Below.refl _ _).alloc (Nat.le_refl _) _).alloc (by simp) _).trans (hb.mono (by simp; omega))
    by_cases he : Tm.eqb t u = true
    all_goals
      first | rw [he] | rw [Bool.eq_false_iff.2 he]
      go_wp2_with fail
      go_ret
      exact ⟨ret_bool (by simp [Lit.eqb, he]), hb'⟩
theorem eqLit_refl {x : Lit} {S : Nat → Prop} {c0 c1 c2 d0 d1 d2 : Value} {w : World} (h : Lit.at S w c0 c1 c2 x) (k : Lit.at S w d0 d1 d2 x) : Calls Try.prog 141 #[.agg #[c0, c1, c2], .agg #[d0, d1, d2]] w (Gives w (.bool true)) :=
  (eqLit_any x x S c0 c1 c2 d0 d1 d2 w h k).mono fun _ _ ⟨he, hb⟩ => Gives.mk (by rw [he, (Lit.eqb_iff x x).2 rfl]) hb

theorem szLitS_any (ts : List Lit) : SzLitS ts := szLitS_of ts fun t _ => szLit_any t
theorem toLitS_any (ts : List Lit) : ToLitS ts := toLitS_of ts fun t _ => toLit_any t
theorem eqLitS_any (ts : List Lit) : EqLitS ts := eqLitS_of ts fun t _ => eqLit_any t

theorem cellsLBool : Try.prog.cellsOf 4 = 1 := by kernel_rfl
theorem cellsLLiteral : Try.prog.cellsOf 147 = 3 := by kernel_rfl
theorem len3 {α : Type} {l : List α} (h : l.length = 3) : ∃ a b c, l = [a, b, c] := by
  match l, h with
  | [a, b, c], _ => exact ⟨a, b, c, rfl⟩
section
variable {H : Type} {enc' : TypeId × Value → H} {w : World}
theorem read_lit : ∀ (fuel : Nat) (cs : List Value) (x : DataW H × List MemPlace), DataW.trod enc' Try.prog w 0 (fun _ => true) true fuel 147 cs = some x → ∃ t : Lit, CellsRd (fun _ => True) w cs t.cs := by
  intro fuel cs x h
  obtain ⟨xs, n, rfl, rfl, hl, hlen, hf⟩ := DataW.trod_struct Try.underlying147 h
  rw [cellsLLiteral] at hl
  obtain ⟨c0, c1, c2, rfl⟩ := len3 hl
  have h0 := hf 0 _ rfl
  have h1 := hf 1 _ rfl
  have g0 : ∃ x0, xs[0]? = some x0 := ⟨_, List.getElem?_eq_getElem (by rw [hlen]; decide)⟩
  have g1 : ∃ x1, xs[1]? = some x1 := ⟨_, List.getElem?_eq_getElem (by rw [hlen]; decide)⟩
  obtain ⟨x0, g0⟩ := g0
  obtain ⟨x1, g1⟩ := g1
  rw [g0] at h0
  rw [g1] at h1
  obtain ⟨p, hp, -⟩ := DataW.trod_bool Try.underlying4 h0
  have hp' : c0 = .bool p := by simpa [cellsLBool] using hp
  obtain ⟨t, ht⟩ := read_term _ _ _ h1
  have ht' : CellsRd (fun _ => True) w [c1, c2] t.cs := by simpa [cellsLBool, cellsLTerm] using ht
  subst hp'
  obtain ⟨m, ts⟩ := t
  refine ⟨⟨p, .node m ts⟩, ?_⟩
  rw [Tm.cs] at ht'
  exact ⟨by rw [D.rd], ht'.1, ht'.2.1, trivial⟩
theorem open_Literal {r : Reach} {b0 : Nat} {v : Value} {d : DataW H} {p : List MemPlace} (hv : Value.okWide Try.prog w r b0 147 v) (h : DataW.Trod enc' Try.prog w 0 (fun _ => true) true 147 v d p) :
    ∃ c0 c1 c2 t, v = .agg #[c0, c1, c2] ∧ Lit.at (fun _ => True) w c0 c1 c2 t := by
  obtain ⟨cs, rfl, hsz⟩ := okWide_struct Try.underlying147 hv
  obtain ⟨fuel, hf⟩ := h
  obtain ⟨t, ht⟩ := read_lit fuel _ _ hf
  have hl : cs.toList.length = 3 := by simpa using hsz.trans cellsLLiteral
  obtain ⟨c0, c1, c2, hc⟩ := len3 hl
  have e : cs = #[c0, c1, c2] := by apply Array.toList_inj.1; rw [hc]
  subst e
  exact ⟨c0, c1, c2, t, rfl, ht.1, ht.2.1, ht.2.2.1⟩
end
end Go.Proofs.Ytoekonkpephocaa
