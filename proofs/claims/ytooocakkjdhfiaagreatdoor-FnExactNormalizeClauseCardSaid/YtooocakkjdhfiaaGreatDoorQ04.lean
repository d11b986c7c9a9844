/- Several texts in one file. -/
import Derived.Test.YtooocakkjdhfiaaGreatDoorRows
import Derived.Test.YtooocakkjdhfiaaGreatDoorQ01
import Derived.Test.YtooocakkjdhfiaaGreatDoorQ02
import Derived.WalkSpells
import Derived.WalkLawsBesides
import Derived.Test.YtooocakkjdhfiaaGreatDoorQ03
/- Literals: as data, and how a law measures, copies and compares them. -/
namespace Go.Proofs.YtooocakkjdhfiaaGreatDoor
set_option maxRecDepth 100000
open Go.RowKit Go.ChangeShapes Go.WideShapes

/-- a sign and an atom -/
structure Lit where
  pos : Bool
  atom : Tm
def Lit.cs (x : Lit) : List D := [.bit x.pos, .str x.atom.name, Tm.sd x.atom.args]
def Lit.bulk (x : Lit) : Nat := x.atom.bulk
def Lit.eqb (x y : Lit) : Bool := decide (x.pos = y.pos) && Tm.eqb x.atom y.atom
theorem Lit.eqb_iff (x y : Lit) : Lit.eqb x y = true ↔ x = y := by
  obtain ⟨p, a⟩ := x
  obtain ⟨q, b⟩ := y
  simp [Lit.eqb, Tm.eqb_iff]

/-- 3 cells read as an item -/
def Lit.at (S : Nat → Prop) (w : World) (c0 c1 c2 : Value) (x : Lit) : Prop := D.rd S w c0 (.bit x.pos) ∧ D.rd S w c1 (.str x.atom.name) ∧ D.rd S w c2 (Tm.sd x.atom.args)
theorem Lit.at_keep {S : Nat → Prop} {w w' : World} {c0 c1 c2 : Value} {x : Lit} (hk : Keeps S w w') (h : Lit.at S w c0 c1 c2 x) : Lit.at S w' c0 c1 c2 x :=
  ⟨D.rd_keep hk _ _ h.1, D.rd_keep hk _ _ h.2.1, D.rd_keep hk _ _ h.2.2⟩
theorem Lit.at_mono {S S' : Nat → Prop} {w : World} {c0 c1 c2 : Value} {x : Lit} (hs : ∀ b, S b → S' b) (h : Lit.at S w c0 c1 c2 x) : Lit.at S' w c0 c1 c2 x :=
  ⟨D.rd_mono hs _ _ h.1, D.rd_mono hs _ _ h.2.1, D.rd_mono hs _ _ h.2.2⟩
def Lit.sd (xs : List Lit) : D := slOf Lit.cs xs
theorem Lit.wide : Wide Lit.cs 3 := fun x => by cases x; simp [Lit.cs]
theorem Lit.sd_is (xs : List Lit) : Lit.sd xs = slOf Lit.cs xs := rfl
theorem Lit.sd_form {S : Nat → Prop} {w : World} {v : Value} {xs : List Lit} (h : D.rd S w v (Lit.sd xs)) : ∃ a cap, v = .slice a xs.length cap ∧ xs.length ≤ big ∧ xs.length ≤ cap := slOf_form (Lit.sd_is xs ▸ h)
theorem Lit.at_form {S : Nat → Prop} {w : World} {c0 c1 c2 : Value} {x : Lit} (h : Lit.at S w c0 c1 c2 x) : c0 = .bool x.pos ∧ c1 = .string x.atom.name ∧ (∃ a cap, c2 = .slice a x.atom.args.length cap) :=
  ⟨by have q := h.1; rw [D.rd] at q; first | exact q | exact q.1, by have q := h.2.1; rw [D.rd] at q; first | exact q | exact q.1, by obtain ⟨a, cap, e, _⟩ := Tm.sd_form h.2.2; exact ⟨a, cap, e⟩⟩
theorem Lit.cs_eq (x : Lit) : Lit.cs x = [(.bit x.pos), (.str x.atom.name), (Tm.sd x.atom.args)] := by cases x; simp [Lit.cs]
theorem Lit.sd_get {S : Nat → Prop} {w : World} {a : Option Addr} {n cap : Nat} {xs : List Lit} (h : D.rd S w (.slice a n cap) (Lit.sd xs)) (hne : xs ≠ []) : ∃ b off, a = some ⟨b, off, none⟩ ∧ S b ∧ b < w.heap.size ∧
    ∀ k (hk : k < xs.length), ∃ c0 c1 c2, w.cell? ⟨b, off + k * 3, none⟩ = some c0 ∧ w.cell? ⟨b, off + k * 3 + 1, none⟩ = some c1 ∧ w.cell? ⟨b, off + k * 3 + 2, none⟩ = some c2 ∧ Lit.at S w c0 c1 c2 xs[k] := by
  rw [Lit.sd_is] at h
  obtain ⟨b, off, q0, q1, q2, hr⟩ := slOf_get Lit.wide (by decide) h hne
  refine ⟨b, off, q0, q1, q2, fun k hk => ?_⟩
  obtain ⟨c0, r0, s0⟩ := hr k hk 0 (.bit xs[k].pos) (by rw [Lit.cs_eq]; rfl)
  obtain ⟨c1, r1, s1⟩ := hr k hk 1 (.str xs[k].atom.name) (by rw [Lit.cs_eq]; rfl)
  obtain ⟨c2, r2, s2⟩ := hr k hk 2 (Tm.sd xs[k].atom.args) (by rw [Lit.cs_eq]; rfl)
  exact ⟨c0, c1, c2, by rw [← r0]; congr 2, by rw [← r1]; congr 2, by rw [← r2]; congr 2, s0, s1, s2⟩
def Lit.css (xs : List Lit) : List D := xs.flatMap Lit.cs
theorem Lit.css_flat (xs : List Lit) : Lit.css xs = xs.flatMap Lit.cs := rfl
theorem Lit.css_length (xs : List Lit) : (Lit.css xs).length = xs.length * 3 := by rw [Lit.css_flat]; exact flat_length Lit.wide xs
theorem Lit.css_ne {xs : List Lit} (h : xs ≠ []) : Lit.css xs ≠ [] := by rw [Lit.css_flat]; exact flat_ne Lit.wide (by decide) h
theorem Lit.css_take_succ (xs : List Lit) (k : Nat) (hk : k < xs.length) : Lit.css (xs.take (k + 1)) = Lit.css (xs.take k) ++ [(.bit xs[k].pos), (.str xs[k].atom.name), (Tm.sd xs[k].atom.args)] := by rw [Lit.css_flat, Lit.css_flat, flat_take_succ _ _ hk, Lit.cs_eq]
theorem Lit.sd_css (xs : List Lit) : Lit.sd xs = .sl xs.length (Lit.css xs) := by rw [Lit.sd_is, slOf, Lit.css_flat]
def Lit.bulks : List Lit → Nat
  | [] => 0
  | t :: ts => Lit.bulk t + Lit.bulks ts
def Lit.eqbs : List Lit → List Lit → Bool
  | [], [] => true
  | t :: ts, u :: us => Lit.eqb t u && Lit.eqbs ts us
  | _, _ => false
theorem Lit.eqbs_iff : ∀ ts us : List Lit, Lit.eqbs ts us = true ↔ ts = us
  | [], [] => by simp [Lit.eqbs]
  | [], _ :: _ => by simp [Lit.eqbs]
  | _ :: _, [] => by simp [Lit.eqbs]
  | t :: ts, u :: us => by simp [Lit.eqbs, Lit.eqb_iff, Lit.eqbs_iff ts us]
theorem Lit.bulks_le : ∀ (ts : List Lit) (k : Nat), Lit.bulks (ts.take k) ≤ Lit.bulks ts
  | [], k => by simp
  | t :: ts, 0 => by simp [Lit.bulks]
  | t :: ts, k + 1 => by
    have := Lit.bulks_le ts k
    simp only [List.take_succ_cons, Lit.bulks]; omega
theorem Lit.bulks_take : ∀ (ts : List Lit) (k : Nat) (hk : k < ts.length), Lit.bulks (ts.take (k + 1)) = Lit.bulks (ts.take k) + Lit.bulk ts[k]
  | [], k, hk => absurd hk (by simp)
  | t :: ts, 0, _ => by simp [Lit.bulks]
  | t :: ts, k + 1, hk => by
    have := Lit.bulks_take ts k (by simpa using hk)
    simp only [List.take_succ_cons, Lit.bulks, this, List.getElem_cons_succ]; omega
theorem Lit.bulk_mem {ts : List Lit} {t : Lit} (h : t ∈ ts) : Lit.bulk t ≤ Lit.bulks ts := by
  induction ts with
  | nil => cases h
  | cons a ts ih =>
    rw [Lit.bulks]
    rcases List.mem_cons.1 h with rfl | h
    · omega
    · have := ih h; omega
theorem Lit.eqbs_length {ts us : List Lit} (h : ts.length ≠ us.length) : Lit.eqbs ts us = false := by
  rw [Bool.eq_false_iff]; intro e; exact h (by rw [(Lit.eqbs_iff _ _).1 e])
theorem Lit.eqbs_at {ts us : List Lit} {k : Nat} (h1 : k < ts.length) (h2 : k < us.length) (hn : Lit.eqb ts[k] us[k] = false) : Lit.eqbs ts us = false := by
  rw [Bool.eq_false_iff]; intro e
  have := (Lit.eqbs_iff _ _).1 e
  subst this
  rw [(Lit.eqb_iff _ _).2 rfl] at hn
  exact absurd hn (by simp)
theorem Lit.eqbs_take {ts us : List Lit} {k : Nat} (h1 : k < ts.length) (h2 : k < us.length) (h : ts.take k = us.take k) (hn : Lit.eqb ts[k] us[k] = true) : ts.take (k + 1) = us.take (k + 1) := by
  rw [List.take_succ_eq_append_getElem h1, List.take_succ_eq_append_getElem h2, h, (Lit.eqb_iff _ _).1 hn]
theorem Lit.own0 {S : Nat → Prop} {w w' : World} {c0 c1 c2 : Value} {x : Lit} (_h : Lit.at S w c0 c1 c2 x) : D.own w' (.bool x.pos) (.bit x.pos) [] := by rw [D.own]; exact ⟨rfl, rfl⟩
theorem Lit.own1 {S : Nat → Prop} {w w' : World} {c0 c1 c2 : Value} {x : Lit} (h : Lit.at S w c0 c1 c2 x) : D.own w' (.string x.atom.name) (.str x.atom.name) [] := D.own_str (by have q := h.2.1; rw [D.rd] at q; exact q.2)
def SzLit (x : Lit) : Prop := ∀ (S : Nat → Prop) (c0 c1 c2 : Value) (left : Int) (w : World), Lit.at S w c0 c1 c2 x → 0 ≤ left → left ≤ 1048576 →
  Calls Tryz.prog 28 #[.agg #[c0, c1, c2], .int .i64 left] w fun e w' => e = .returned (.int .i64 (after (Lit.bulk x) left)) ∧ Below w.heap.size w w'
def SzLitS (ts : List Lit) : Prop := ∀ (S : Nat → Prop) (v : Value) (left : Int) (w : World), D.rd S w v (Lit.sd ts) → 0 ≤ left → left ≤ 1048576 →
  Calls Tryz.prog 14 #[v, .int .i64 left] w fun e w' => e = .returned (.int .i64 (after (ts.length + Lit.bulks ts) left)) ∧ Below w.heap.size w w'
def MadeLit (x : Lit) (w : World) (e : Ending) (w' : World) : Prop := ∃ v2 F2, e = .returned (.agg #[.bool x.pos, .string x.atom.name, v2]) ∧ D.own w' v2 (Tm.sd x.atom.args) F2 ∧ (∀ y ∈ F2, w.heap.size ≤ y) ∧ Below w.heap.size w w'
def ToLit (x : Lit) : Prop := ∀ (S : Nat → Prop) (c0 c1 c2 : Value) (w : World), Lit.at S w c0 c1 c2 x → Lit.bulk x ≤ 1048576 → Calls Tryz.prog 34 #[.agg #[c0, c1, c2]] w (MadeLit x w)
def MadeLitS (ts : List Lit) (w : World) (e : Ending) (w' : World) : Prop := ∃ v F, e = .returned v ∧ D.own w' v (Lit.sd ts) F ∧ (∀ x ∈ F, w.heap.size ≤ x) ∧ Below w.heap.size w w'
def ToLitS (ts : List Lit) : Prop := ∀ (S : Nat → Prop) (v : Value) (w : World), D.rd S w v (Lit.sd ts) → ts.length + Lit.bulks ts ≤ 1048576 → Calls Tryz.prog 18 #[v] w (MadeLitS ts w)
def EqLit (t : Lit) : Prop := ∀ (u : Lit) (S : Nat → Prop) (c0 c1 c2 d0 d1 d2 : Value) (w : World), Lit.at S w c0 c1 c2 t → Lit.at S w d0 d1 d2 u → Calls Tryz.prog 38 #[.agg #[c0, c1, c2], .agg #[d0, d1, d2]] w fun e w' => e = .returned (.bool (Lit.eqb t u)) ∧ Below w.heap.size w w'
def EqLitS (ts : List Lit) : Prop := ∀ (us : List Lit) (S : Nat → Prop) (v u : Value) (w : World), D.rd S w v (Lit.sd ts) → D.rd S w u (Lit.sd us) → Calls Tryz.prog 21 #[v, u] w fun e w' => e = .returned (.bool (Lit.eqbs ts us)) ∧ Below w.heap.size w w'
set_option maxHeartbeats 400000 in
theorem szLitS_of (ts : List Lit) (h : ∀ t ∈ ts, SzLit t) : SzLitS ts := by
  intro S v left w hr h0 h1
  obtain ⟨a, cap, rfl, hlen, hcap⟩ := Lit.sd_form hr
  unfold big at hlen
  by_cases hl : left < ts.length
  · have hx : left < (ts.length + Lit.bulks ts : Nat) := by omega
    have HX := hid (after_neg hx); clear hx
    go_enter Tryz.func14, Tryz.ntmps14
    go_wp2_with fail
    go_ret
    exact ⟨ret_i64 HX.out.symm, Below.refl _ _⟩
  · go_enter Tryz.func14, Tryz.ntmps14
    go_wp2_with fail
    go_loopw [1, 5] (fun l i wr => ∃ (k : Nat) (x : Int), k ≤ ts.length ∧ i = .int .i64 k ∧ l = .int .i64 x ∧ 0 ≤ x ∧ x ≤ 1048576 ∧ Hid (x = left - (ts.length + Lit.bulks (ts.take k) : Nat)) ∧ Below w.heap.size w wr) (fun _ i _ => ts.length - (intOf i).toNat)
    case atStart => exact ⟨0, _, Nat.zero_le _, rfl, rfl, by omega, by omega, by simp [Hid, Lit.bulks], Below.refl _ _⟩
    case round =>
      obtain ⟨k, x, hk, rfl, rfl, hx0, hx1, HX, hb⟩ := hrel
      by_cases hlt : k < ts.length
      · have hne : ts ≠ [] := by intro e; subst e; simp at hlt
        obtain ⟨b, off, rfl, hS, hbl, hrr⟩ := Lit.sd_get hr hne
        obtain ⟨c0, c1, c2, q0, q1, q2, qx⟩ := hrr k hlt
        have q0' := (hb.cell (p := ⟨b, off + k * 3, none⟩) hbl).trans q0
        have q1' := (hb.cell (p := ⟨b, off + k * 3 + 1, none⟩) hbl).trans q1
        have q2' := (hb.cell (p := ⟨b, off + k * 3 + 2, none⟩) hbl).trans q2
        have qx' := Lit.at_keep (Keeps.all hb) qx
        have hmem := h ts[k] (List.getElem_mem hlt)
        have hstep := hid (Lit.bulks_take ts k hlt)
        have hstle := hid (Lit.bulks_le ts (k + 1))
        clear q0 q1 q2 qx hr hrr
        go_wp2_with fail
        refine (hmem S _ _ _ _ _ qx' hx0 hx1).mono ?_
        rintro e w' ⟨rfl, hb'⟩
        by_cases hl2 : x < Lit.bulk ts[k]
        · have HZ : Hid (after (ts.length + Lit.bulks ts) left = -1) := after_neg (by have := HX.out; have := hstep.out; have := hstle.out; omega)
          rw [after_neg hl2]
          go_wp2_with fail
          go_ret
          exact ⟨ret_i64 HZ.out.symm, hb.trans (hb'.mono hb.size)⟩
        · have hge : (Lit.bulk ts[k] : Int) ≤ x := by omega
          have HZ : Hid (x - (Lit.bulk ts[k] : Nat) = left - (ts.length + Lit.bulks (ts.take (k + 1)) : Nat)) := by
            have := HX.out; have := hstep.out; show (_ : Int) = _; omega
          rw [after_pos hge]
          go_wp2_with fail
          go_roundw
          case rel => exact ⟨k + 1, _, by omega, by go_num, rfl, by omega, by omega, HZ, hb.trans (hb'.mono hb.size)⟩
          case measure => simp [intOf]; omega
      · obtain rfl : k = ts.length := by omega
        have HY : Hid (x = after (ts.length + Lit.bulks ts) left) := by
          have h := HX.out
          rw [List.take_length] at h
          rw [after_pos (by omega)]; exact h
        go_wp2_with fail
        go_ret
        exact ⟨ret_i64 HY.out, hb⟩
theorem Lit.sd_own_form {w : World} {v : Value} {ts : List Lit} {F : List Nat} (h : D.own w v (Lit.sd ts) F) : ∃ a cap, v = .slice a ts.length cap := by
  rw [Lit.sd_css, D.own] at h
  obtain ⟨a, cap, e, _⟩ := h
  exact ⟨a, cap, e⟩
theorem infoLiteral : (Tryz.prog.info? 52).map (fun i => (i.zero, i.size, i.bytes)) = some (some (.agg #[.bool false, .string ByteArray.empty, .slice none 0 0]), 3, 48) := by kernel_rfl
set_option maxHeartbeats 400000 in
theorem toLitS_of (ts : List Lit) (h : ∀ t ∈ ts, ToLit t) : ToLitS ts := by
  intro S v w hr hbk
  obtain ⟨a, cap, rfl, hlen, hcap⟩ := Lit.sd_form hr
  have hmk := run_mk (P := Tryz.prog) Tryz.underlying26 infoLiteral ts.length (by omega) hlen
  unfold big at hlen
  go_enter Tryz.func18, Tryz.ntmps18
  go_wp2_with fail
  go_loopw [4] (fun i wr => ∃ (k : Nat) (F : List Nat), k ≤ ts.length ∧ i = .int .i64 k ∧ Filled wr w.heap.size 52 (ts.length * 3) (Lit.css (ts.take k)) F ∧ (∀ x ∈ F, w.heap.size < x) ∧ Below w.heap.size w wr) (fun i _ => ts.length - (intOf i).toNat)
  case atStart =>
    refine ⟨0, [], Nat.zero_le _, rfl, ?_, by simp, (Below.refl _ _).alloc (Nat.le_refl _) _⟩
    have := Filled.made w (madeCells #[Value.bool false, .string ByteArray.empty, .slice none 0 0] (ts.length * 3)) 52
    rw [size_madeCells] at this
    simpa [Lit.css] using this
  case round =>
    obtain ⟨k, F, hk, rfl, hfl, hF, hb⟩ := hrel
    by_cases hlt : k < ts.length
    · have hne : ts ≠ [] := by intro e; subst e; simp at hlt
      obtain ⟨b, off, rfl, hS, hbl, hrr⟩ := Lit.sd_get hr hne
      obtain ⟨c0, c1, c2, q0, q1, q2, qx⟩ := hrr k hlt
      have q0' := (hb.cell (p := ⟨b, off + k * 3, none⟩) hbl).trans q0
      have q1' := (hb.cell (p := ⟨b, off + k * 3 + 1, none⟩) hbl).trans q1
      have q2' := (hb.cell (p := ⟨b, off + k * 3 + 2, none⟩) hbl).trans q2
      replace qx := Lit.at_keep (Keeps.all hb) qx
      have hmem := h ts[k] (List.getElem_mem hlt)
      have hbk' := Lit.bulk_mem (List.getElem_mem hlt)
      clear q0 q1 q2 hr hrr
      go_wp2_with fail
      refine (hmem S _ _ _ _ qx (by omega)).mono ?_
      rintro e w1 ⟨v2, G2, rfl, ho2, hG2, hb1⟩
      obtain ⟨a2, ca2, rfl⟩ := Tm.sd_own_form ho2
      have hfl1 := hfl.keep (Keeps.all hb1)
      obtain ⟨x0, hx0⟩ := hfl1.cell (p := k * 3) (by omega)
      obtain ⟨x1, hx1⟩ := hfl1.cell (p := k * 3 + 1) (by omega)
      obtain ⟨x2, hx2⟩ := hfl1.cell (p := k * 3 + 2) (by omega)
      have hf0 := hfl1.free (k * 3)
      have hf1 := hfl1.free (k * 3 + 1)
      have hf2 := hfl1.free (k * 3 + 2)
      go_wp2_with fail
      go_roundw
      case rel =>
        have hB := hb.size
        have hBl := hfl.lt
        have hG2' : w.heap.size ∉ G2 := fun q => by have := hG2 _ q; omega
        refine ⟨k + 1, F ++ (G2), by omega, by go_num, ?_, fun x hx => ?_, (((hb.trans (hb1.mono hB)).setCell (Nat.le_refl _) _).setCell (Nat.le_refl _) _).setCell (Nat.le_refl _) _⟩
        · rw [Lit.css_take_succ ts k hlt]
          have hl : (Lit.css (ts.take k)).length = k * 3 := by rw [Lit.css_length, List.length_take, Nat.min_eq_left hk]
          have hd2 : ∀ x ∈ F, x ∉ G2 := fun x hx hx' => by have := hG2 x hx'; have := hfl.ltF x hx; omega
          have s0 := hfl1.set (p := k * 3) (v := .bool ts[k].pos) (d := .bit ts[k].pos) (G := []) (by exact hl.symm) (by omega) (Lit.own0 qx) (by simp) (by simp)
          have s1 := s0.set (p := k * 3 + 1) (v := .string ts[k].atom.name) (d := .str ts[k].atom.name) (G := []) (by simp [hl]) (by omega) (Lit.own1 qx) (by simp) (by simp)
          have s2 := s1.set (p := k * 3 + 2) (v := .slice a2 ts[k].atom.args.length ca2) (d := Tm.sd ts[k].atom.args) (G := G2) (by simp [hl]) (by omega) (D.own_keep _ _ _ (((Keeps.refl _ _).setCell (fun q _ => hG2' q) _).setCell (fun q _ => hG2' q) _) ho2) hG2' (by simpa using hd2)
          simpa using s2
        · rcases List.mem_append.1 hx with hx | hx
          · exact hF x hx
          · have := hG2 x hx; omega
      case measure => simp [intOf]; omega
    · obtain rfl : k = ts.length := by omega
      go_wp2_with fail
      go_ret
      rw [List.take_length] at hfl
      by_cases hne : ts = []
      · subst hne
        refine ⟨_, [], rfl, ?_, by simp, hb⟩
        have := D.own_nil (w := wr) (some ⟨w.heap.size, 0, none⟩) 0
        rw [Lit.sd_css]; simpa [Lit.css] using this
      · exact ⟨_, _ :: F, rfl, by rw [Lit.sd_css]; exact hfl.own (Lit.css_ne hne) (by unfold big; omega) (Nat.le_refl _), fun x hx => by rcases List.mem_cons.1 hx with rfl | hx; exact Nat.le_refl _; exact Nat.le_of_lt (hF x hx), hb⟩
set_option maxHeartbeats 400000 in
theorem eqLitS_of (ts : List Lit) (h : ∀ t ∈ ts, EqLit t) : EqLitS ts := by
  intro us S v u w hr hr'
  obtain ⟨a, cap, rfl, hlen, hcap⟩ := Lit.sd_form hr
  obtain ⟨a', cap', rfl, hlen', hcap'⟩ := Lit.sd_form hr'
  unfold big at hlen hlen'
  by_cases hll : ts.length = us.length
  · go_enter Tryz.func21, Tryz.ntmps21
    go_wp2_with fail
    go_loopw [5] (fun i wr => ∃ (k : Nat), k ≤ ts.length ∧ i = .int .i64 k ∧ Hid (ts.take k = us.take k) ∧ Below w.heap.size w wr) (fun i _ => ts.length - (intOf i).toNat)
    case atStart => exact ⟨0, Nat.zero_le _, rfl, by simp [Hid], Below.refl _ _⟩
    case round =>
      obtain ⟨k, hk, rfl, HX, hb⟩ := hrel
      by_cases hlt : k < ts.length
      · have hne : ts ≠ [] := by intro e; subst e; simp at hlt
        have hlt' : k < us.length := by omega
        have hne' : us ≠ [] := by intro e; subst e; simp at hlt'
        obtain ⟨b, off, rfl, hS, hbl, hrr⟩ := Lit.sd_get hr hne
        obtain ⟨b', off', rfl, hS', hbl', hrr'⟩ := Lit.sd_get hr' hne'
        obtain ⟨c0, c1, c2, q0, q1, q2, qx⟩ := hrr k hlt
        obtain ⟨d0, d1, d2, r0, r1, r2, rx⟩ := hrr' k hlt'
        replace q0 := (hb.cell (p := ⟨b, off + k * 3, none⟩) hbl).trans q0
        replace q1 := (hb.cell (p := ⟨b, off + k * 3 + 1, none⟩) hbl).trans q1
        replace q2 := (hb.cell (p := ⟨b, off + k * 3 + 2, none⟩) hbl).trans q2
        replace r0 := (hb.cell (p := ⟨b', off' + k * 3, none⟩) hbl').trans r0
        replace r1 := (hb.cell (p := ⟨b', off' + k * 3 + 1, none⟩) hbl').trans r1
        replace r2 := (hb.cell (p := ⟨b', off' + k * 3 + 2, none⟩) hbl').trans r2
        replace qx := Lit.at_keep (Keeps.all hb) qx
        replace rx := Lit.at_keep (Keeps.all hb) rx
        have hmem := h ts[k] (List.getElem_mem hlt)
        clear hr hrr hr' hrr' 
        go_wp2_with fail
        have hb0 : b < wr.heap.size := Nat.lt_of_lt_of_le hbl hb.size
        have hb0' : b' < wr.heap.size := Nat.lt_of_lt_of_le hbl' hb.size
        refine wp_region_B [fun v _ => v = .slice (some ⟨b, off, none⟩) ts.length cap, fun v _ => v = .int .i64 k, fun v _ => v = .pointer (some ⟨b, off + k * 3, none⟩), fun v _ => v = .agg #[c0, c1, c2], fun v _ => v = .slice (some ⟨b', off', none⟩) us.length cap', fun v _ => v = .int .i64 k, fun v _ => v = .pointer (some ⟨b', off' + k * 3, none⟩), fun v _ => v = .agg #[d0, d1, d2], fun v _ => v = .bool (Lit.eqb ts[k] us[k]), fun v _ => v = .bool (!Lit.eqb ts[k] us[k])] _ (fun V => by simp [putAll, Act.put]; rfl) (by kernel_rfl) (by decide) (by simp) (by kernel_rfl) ?_ ?_ ?_
        · intro F hF
          simp only [List.mem_cons, List.not_mem_nil, or_false] at hF
          rcases hF with rfl | rfl | rfl | rfl | rfl | rfl | rfl | rfl | rfl | rfl
          · exact stable_eq
          · exact stable_eq
          · exact stable_eq
          · exact stable_eq
          · exact stable_eq
          · exact stable_eq
          · exact stable_eq
          · exact stable_eq
          · exact stable_eq
          · exact stable_eq
        · refine ⟨?_, ?_, ?_, ?_, ?_, ?_, ?_, ?_, ?_, ?_, trivial⟩
          · intro V w1 hbR _
            unfold Does
            go_simp
            exact ⟨Below.refl _ _, rfl⟩
          · intro V w1 hbR _
            unfold Does
            go_simp
            exact ⟨Below.refl _ _, rfl⟩
          · intro V w1 hbR ⟨f0, f1, _⟩
            replace f0 : V 0 = .slice (some ⟨b, off, none⟩) ts.length cap := f0
            replace f1 : V 1 = .int .i64 k := f1
            unfold Does
            go_simp
            exact ⟨Below.refl _ _, rfl⟩
          · intro V w1 hbR ⟨f2, _⟩
            replace f2 : V 2 = .pointer (some ⟨b, off + k * 3, none⟩) := f2
            obtain ⟨hc, hf⟩ := bcell hbR
            try simp only [World.size_alloc, World.size_setCell] at hc hf
            unfold Does
            go_simp
            exact ⟨Below.refl _ _, rfl⟩
          · intro V w1 hbR _
            unfold Does
            go_simp
            exact ⟨Below.refl _ _, rfl⟩
          · intro V w1 hbR _
            unfold Does
            go_simp
            exact ⟨Below.refl _ _, rfl⟩
          · intro V w1 hbR ⟨f4, f5, _⟩
            replace f4 : V 4 = .slice (some ⟨b', off', none⟩) us.length cap' := f4
            replace f5 : V 5 = .int .i64 k := f5
            unfold Does
            go_simp
            exact ⟨Below.refl _ _, rfl⟩
          · intro V w1 hbR ⟨f6, _⟩
            replace f6 : V 6 = .pointer (some ⟨b', off' + k * 3, none⟩) := f6
            obtain ⟨hc, hf⟩ := bcell hbR
            try simp only [World.size_alloc, World.size_setCell] at hc hf
            unfold Does
            go_simp
            exact ⟨Below.refl _ _, rfl⟩
          · intro V w1 hbR ⟨f3, f7, _⟩
            replace f3 : V 3 = .agg #[c0, c1, c2] := f3
            replace f7 : V 7 = .agg #[d0, d1, d2] := f7
            obtain ⟨hc, hf⟩ := bcell hbR
            try simp only [World.size_alloc, World.size_setCell] at hc hf
            unfold Does
            go_simp
            refine (hmem us[k] S _ _ _ _ _ _ _ (Lit.at_keep (Keeps.all hbR) qx) (Lit.at_keep (Keeps.all hbR) rx)).mono ?_; rintro e w2 ⟨rfl, hb2⟩; exact ⟨_, rfl, hb2, rfl⟩
          · intro V w1 hbR ⟨f8, _⟩
            replace f8 : V 8 = .bool (Lit.eqb ts[k] us[k]) := f8
            unfold Does
            go_simp
            exact ⟨Below.refl _ _, rfl⟩
        intro V w1 hbR hfR
        obtain ⟨f0, f1, f2, f3, f4, f5, f6, f7, f8, f9, _⟩ := hfR
        replace f0 : V 0 = .slice (some ⟨b, off, none⟩) ts.length cap := f0
        replace f1 : V 1 = .int .i64 k := f1
        replace f2 : V 2 = .pointer (some ⟨b, off + k * 3, none⟩) := f2
        replace f3 : V 3 = .agg #[c0, c1, c2] := f3
        replace f4 : V 4 = .slice (some ⟨b', off', none⟩) us.length cap' := f4
        replace f5 : V 5 = .int .i64 k := f5
        replace f6 : V 6 = .pointer (some ⟨b', off' + k * 3, none⟩) := f6
        replace f7 : V 7 = .agg #[d0, d1, d2] := f7
        replace f8 : V 8 = .bool (Lit.eqb ts[k] us[k]) := f8
        replace f9 : V 9 = .bool (!Lit.eqb ts[k] us[k]) := f9
        simp only [f0, f1, f2, f3, f4, f5, f6, f7, f8, f9]
        clear f0 f1 f2 f3 f4 f5 f6 f7 f8 f9
        by_cases he : Lit.eqb ts[k] us[k] = true
        · have HZ := hid (Lit.eqbs_take hlt hlt' HX.out he)
          rw [he]
          go_wp2_with fail
          go_roundw
          case rel => exact ⟨k + 1, by omega, by go_num, HZ, hb.trans (hbR.mono hb.size)⟩
          case measure => simp [intOf]; omega
        · have he' : Lit.eqb ts[k] us[k] = false := by simpa using he
          have HZ := hid (Lit.eqbs_at hlt hlt' he')
          rw [he']
          clear he he'
          go_wp2_with fail
          go_ret
          exact ⟨ret_bool HZ.out.symm, hb.trans (hbR.mono hb.size)⟩
      · obtain rfl : k = ts.length := by omega
        have HY : Hid (Lit.eqbs ts us = true) := by
          have := HX.out
          rw [List.take_length, hll, List.take_length] at this
          rw [Hid, Lit.eqbs_iff]; exact this
        go_wp2_with fail
        go_ret
        exact ⟨ret_bool HY.out.symm, hb⟩
  · have HY := hid (Lit.eqbs_length hll)
    go_enter Tryz.func21, Tryz.ntmps21
    go_wp2_with fail
    go_ret
    exact ⟨ret_bool HY.out.symm, Below.refl _ _⟩

theorem Lit.at_atom {S : Nat → Prop} {w : World} {c0 c1 c2 : Value} {x : Lit} (h : Lit.at S w c0 c1 c2 x) : Tm.at S w c1 c2 x.atom := h.2

set_option maxHeartbeats 400000 in
theorem szLit_any (x : Lit) : SzLit x := by
  intro S c0 c1 c2 left w hr h0 h1
  obtain ⟨rfl, rfl, a, cap, rfl⟩ := Lit.at_form hr
  have hB : Below w.heap.size w (w.alloc (.cells #[.bool x.pos, .string x.atom.name, .slice a x.atom.args.length cap] 46)) := (Below.refl _ _).alloc (Nat.le_refl _) _
  replace hr := Tm.at_keep (Keeps.all hB) (Lit.at_atom hr)
  rw [Lit.bulk]
  go_enter Tryz.func28, Tryz.ntmps28
  go_wp2_with fail
  refine (szTerm_any x.atom _ _ _ _ _ hr h0 h1).mono ?_
  rintro e w' ⟨rfl, hb⟩
  by_cases hl : left < x.atom.bulk
  · have HX := hid (after_neg hl)
    rw [after_neg hl]
    go_wp2_with fail
    go_ret
    exact ⟨ret_i64 HX.out.symm, hB.trans (hb.mono hB.size)⟩
  · have hge : (x.atom.bulk : Int) ≤ left := by omega
    have HX := hid (after_pos hge)
    rw [after_pos hge]
    go_wp2_with fail
    go_ret
    exact ⟨ret_i64 HX.out.symm, hB.trans (hb.mono hB.size)⟩

set_option maxHeartbeats 400000 in
theorem toLit_any (x : Lit) : ToLit x := by
  intro S c0 c1 c2 w hr hbk
  obtain ⟨rfl, rfl, a, cap, rfl⟩ := Lit.at_form hr
  rw [Lit.bulk] at hbk
  replace hr := (Lit.at_atom hr)
  go_enter Tryz.func34, Tryz.ntmps34
  go_wp2_with fail
  refine (toTerm_any x.atom S _ _ _ (Tm.at_keep ?hk hr) hbk).mono ?_
  case hk => exact (((Keeps.refl _ _).alloc _).alloc _).alloc _
  rintro e w1 ⟨v, F, rfl, ho, hF, hb⟩
  obtain ⟨a', cap', rfl⟩ := Tm.sd_own_form ho
  obtain ⟨hc, hf⟩ := bcell hb
  have hz := hb.size
  simp only [World.size_alloc] at hc hf hz hF
  go_wp2_with fail
  refine bodyPost_ret (v := .agg #[.bool x.pos, .string x.atom.name, .slice a' x.atom.args.length cap']) (by simp [results, Tryz.results34, go_sem, hc]) rfl ?_
  refine ⟨_, F, rfl, D.own_keep _ _ _ ?_ ho, fun x hx => by have := hF x hx; omega, ?_⟩
  · exact ((((((Keeps.refl _ _).set_lt hF (by simp) _).set_lt hF (by simp) _).set_lt hF (by simp) _).set_lt hF (by simp) _).set_lt hF (by simp) _)
  · exact (((((((((Below.refl _ _).alloc (Nat.le_refl _) _).alloc (by simp) _).alloc (by simp; omega) _).trans (hb.mono (by simp; omega))).setCell (by simp; omega) _).setCell (by simp; omega) _).setCell (by simp) _).setCell (by simp) _).setCell (by simp) _

/-- the value is a literal that reads as x -/
def IsL (x : Lit) (v : Value) (w : World) : Prop := ∃ v', v = .agg #[.bool x.pos, .string x.atom.name, v'] ∧ Lit.at (fun _ => True) w (.bool x.pos) (.string x.atom.name) v' x
theorem IsL.form {x : Lit} {v : Value} {w : World} (h : IsL x v w) : ∃ a cap, v = .agg #[.bool x.pos, .string x.atom.name, .slice a x.atom.args.length cap] ∧ Lit.at (fun _ => True) w (.bool x.pos) (.string x.atom.name) (.slice a x.atom.args.length cap) x := by
  obtain ⟨v', rfl, h⟩ := h
  obtain ⟨-, -, a, cap, rfl⟩ := Lit.at_form h
  exact ⟨a, cap, rfl, h⟩
theorem IsL.stable {x : Lit} {w : World} : ∀ v w1 w2, Below w.heap.size w w1 → Below w1.heap.size w1 w2 → IsL x v w1 → IsL x v w2 :=
  fun _ _ _ _ hb ⟨v', e, h⟩ => ⟨v', e, Lit.at_keep (Keeps.all hb) h⟩
theorem toLit_is {x : Lit} {S : Nat → Prop} {c0 c1 c2 : Value} {w : World} (h : Lit.at S w c0 c1 c2 x) (hb : x.bulk ≤ 1048576) :
    Calls Tryz.prog 34 #[.agg #[c0, c1, c2]] w (Yields w (IsL x)) :=
  (toLit_any x S c0 c1 c2 w h hb).mono fun _ _ ⟨v, _, he, ho, _, hbl⟩ => ⟨_, he, hbl, v, rfl, by rw [D.rd], D.rd_str (Tm.at_form h.2).2.1, D.rd_mono (fun _ _ => trivial) _ _ (D.own_rd _ _ _ ho)⟩

set_option maxHeartbeats 400000 in
theorem eqLit_any (x : Lit) : EqLit x := by
  intro u S c0 c1 c2 d0 d1 d2 w hr hr'
  obtain ⟨p, t⟩ := x
  obtain ⟨q, u⟩ := u
  obtain ⟨rfl, rfl, a, cap, rfl⟩ := Lit.at_form hr
  obtain ⟨rfl, rfl, a', cap', rfl⟩ := Lit.at_form hr'
  replace hr := Lit.at_atom hr
  replace hr' := Lit.at_atom hr'
  simp only at hr hr' ⊢
  cases p <;> cases q
  case false.true =>
    have HX : Hid (Lit.eqb ⟨false, t⟩ ⟨true, u⟩ = false) := by simp [Hid, Lit.eqb]
    go_enter Tryz.func38, Tryz.ntmps38
    go_wp2_with fail
    go_ret
    exact ⟨ret_bool HX.out.symm, ((Below.refl _ _).alloc (Nat.le_refl _) _).alloc (by simp) _⟩
  case true.false =>
    have HX : Hid (Lit.eqb ⟨true, t⟩ ⟨false, u⟩ = false) := by simp [Hid, Lit.eqb]
    go_enter Tryz.func38, Tryz.ntmps38
    go_wp2_with fail
    go_ret
    exact ⟨ret_bool HX.out.symm, ((Below.refl _ _).alloc (Nat.le_refl _) _).alloc (by simp) _⟩
  all_goals
    first
    | have HX : Hid (Lit.eqb ⟨true, t⟩ ⟨true, u⟩ = Tm.eqb t u) := by simp [Hid, Lit.eqb]
      have HI : Hid (Lit.eqb ⟨true, t⟩ ⟨true, u⟩ = Lit.eqb ⟨true, t⟩ ⟨true, u⟩) := rfl
    | skip
    go_enter Tryz.func38, Tryz.ntmps38
    go_wp2_with fail
    refine (eqTerm_any t u S _ _ _ _ _ (Tm.at_keep (((Keeps.refl _ _).alloc _).alloc _) hr) (Tm.at_keep (((Keeps.refl _ _).alloc _).alloc _) hr')).mono ?_
    rintro e w1 ⟨rfl, hb⟩
    have hb' : Below w.heap.size w w1 := (((Below.refl _ _).alloc (Nat.le_refl _) _).alloc (by simp) _).trans (hb.mono (by simp; omega))
    by_cases he : Tm.eqb t u = true
    all_goals
      first | rw [he] | rw [Bool.eq_false_iff.2 he]
      go_wp2_with fail
      go_ret
      exact ⟨ret_bool (by simp [Lit.eqb, he]), hb'⟩
theorem eqLit_refl {x : Lit} {S : Nat → Prop} {c0 c1 c2 d0 d1 d2 : Value} {w : World} (h : Lit.at S w c0 c1 c2 x) (k : Lit.at S w d0 d1 d2 x) : Calls Tryz.prog 38 #[.agg #[c0, c1, c2], .agg #[d0, d1, d2]] w (Gives w (.bool true)) :=
  (eqLit_any x x S c0 c1 c2 d0 d1 d2 w h k).mono fun _ _ ⟨he, hb⟩ => Gives.mk (by rw [he, (Lit.eqb_iff x x).2 rfl]) hb

theorem szLitS_any (ts : List Lit) : SzLitS ts := szLitS_of ts fun t _ => szLit_any t
theorem toLitS_any (ts : List Lit) : ToLitS ts := toLitS_of ts fun t _ => toLit_any t
theorem eqLitS_any (ts : List Lit) : EqLitS ts := eqLitS_of ts fun t _ => eqLit_any t

theorem cellsLBool : Tryz.prog.cellsOf 4 = 1 := by kernel_rfl
theorem cellsLLiteral : Tryz.prog.cellsOf 46 = 3 := by kernel_rfl
theorem len3 {α : Type} {l : List α} (h : l.length = 3) : ∃ a b c, l = [a, b, c] := by
  match l, h with
  | [a, b, c], _ => exact ⟨a, b, c, rfl⟩
section
variable {H : Type} {enc' : TypeId × Value → H} {w : World}
theorem read_lit : ∀ (fuel : Nat) (cs : List Value) (x : DataW H × List MemPlace), DataW.trod enc' Tryz.prog w 0 (fun _ => true) true fuel 46 cs = some x → ∃ t : Lit, CellsRd (fun _ => True) w cs t.cs := by
  intro fuel cs x h
  obtain ⟨xs, n, rfl, rfl, hl, hlen, hf⟩ := DataW.trod_struct Tryz.underlying46 h
  rw [cellsLLiteral] at hl
  obtain ⟨c0, c1, c2, rfl⟩ := len3 hl
  have h0 := hf 0 _ rfl
  have h1 := hf 1 _ rfl
  have g0 : ∃ x0, xs[0]? = some x0 := ⟨_, List.getElem?_eq_getElem (by rw [hlen]; decide)⟩
  have g1 : ∃ x1, xs[1]? = some x1 := ⟨_, List.getElem?_eq_getElem (by rw [hlen]; decide)⟩
  obtain ⟨x0, g0⟩ := g0
  obtain ⟨x1, g1⟩ := g1
  rw [g0] at h0
  rw [g1] at h1
  obtain ⟨p, hp, -⟩ := DataW.trod_bool Tryz.underlying4 h0
  have hp' : c0 = .bool p := by simpa [cellsLBool] using hp
  obtain ⟨t, ht⟩ := read_term _ _ _ h1
  have ht' : CellsRd (fun _ => True) w [c1, c2] t.cs := by simpa [cellsLBool, cellsLTerm] using ht
  subst hp'
  obtain ⟨m, ts⟩ := t
  refine ⟨⟨p, .node m ts⟩, ?_⟩
  rw [Tm.cs] at ht'
  exact ⟨by rw [D.rd], ht'.1, ht'.2.1, trivial⟩
theorem open_Literal {r : Reach} {b0 : Nat} {v : Value} {d : DataW H} {p : List MemPlace} (hv : Value.okWide Tryz.prog w r b0 46 v) (h : DataW.Trod enc' Tryz.prog w 0 (fun _ => true) true 46 v d p) :
    ∃ c0 c1 c2 t, v = .agg #[c0, c1, c2] ∧ Lit.at (fun _ => True) w c0 c1 c2 t := by
  obtain ⟨cs, rfl, hsz⟩ := okWide_struct Tryz.underlying46 hv
  obtain ⟨fuel, hf⟩ := h
  obtain ⟨t, ht⟩ := read_lit fuel _ _ hf
  have hl : cs.toList.length = 3 := by simpa using hsz.trans cellsLLiteral
  obtain ⟨c0, c1, c2, hc⟩ := len3 hl
  have e : cs = #[c0, c1, c2] := by apply Array.toList_inj.1; rw [hc]
  subst e
  exact ⟨c0, c1, c2, t, rfl, ht.1, ht.2.1, ht.2.2.1⟩
end
end Go.Proofs.YtooocakkjdhfiaaGreatDoor
/- Clauses: as data, and how a law measures, copies and compares them. -/
namespace Go.Proofs.YtooocakkjdhfiaaGreatDoor
set_option maxRecDepth 100000
open Go.RowKit Go.ChangeShapes Go.WideShapes

/-- a clause -/
structure Cl where
  ls : List Lit
def Cl.bulk (x : Cl) : Nat := x.ls.length + Lit.bulks x.ls
def Cl.at (S : Nat → Prop) (w : World) (c0 : Value) (x : Cl) : Prop := D.rd S w c0 (Lit.sd x.ls)
theorem Cl.at_keep {S : Nat → Prop} {w w' : World} {c0 : Value} {x : Cl} (hk : Keeps S w w') (h : Cl.at S w c0 x) : Cl.at S w' c0 x := D.rd_keep hk _ _ h
theorem Cl.at_mono {S S' : Nat → Prop} {w : World} {c0 : Value} {x : Cl} (hs : ∀ b, S b → S' b) (h : Cl.at S w c0 x) : Cl.at S' w c0 x := D.rd_mono hs _ _ h
theorem Cl.at_form {S : Nat → Prop} {w : World} {c0 : Value} {x : Cl} (h : Cl.at S w c0 x) : ∃ a cap, c0 = .slice a x.ls.length cap := by
  obtain ⟨a, cap, e, _⟩ := Lit.sd_form h; exact ⟨a, cap, e⟩

set_option maxHeartbeats 400000 in
theorem szCl_any (x : Cl) : ∀ (S : Nat → Prop) (c0 : Value) (left : Int) (w : World), Cl.at S w c0 x → 0 ≤ left → left ≤ 1048576 →
    Calls Tryz.prog 5 #[.agg #[c0], .int .i64 left] w fun e w' => e = .returned (.int .i64 (after x.bulk left)) ∧ Below w.heap.size w w' := by
  intro S c0 left w hr h0 h1
  obtain ⟨a, cap, rfl⟩ := Cl.at_form hr
  have hB : Below w.heap.size w (w.alloc (.cells #[.slice a x.ls.length cap] 24)) := (Below.refl _ _).alloc (Nat.le_refl _) _
  replace hr := Cl.at_keep (Keeps.all hB) hr
  go_enter Tryz.func5, Tryz.ntmps5
  go_wp2_with fail
  refine (szLitS_any x.ls _ _ _ _ hr h0 h1).mono ?_
  rintro e w' ⟨rfl, hb⟩
  by_cases hl : left < (x.ls.length + Lit.bulks x.ls : Nat)
  · have HX := hid (after_neg hl)
    rw [after_neg hl]
    go_wp2_with fail
    go_ret
    exact ⟨ret_i64 HX.out.symm, hB.trans (hb.mono hB.size)⟩
  · have hge : ((x.ls.length + Lit.bulks x.ls : Nat) : Int) ≤ left := by omega
    have HX := hid (after_pos hge)
    rw [after_pos hge]
    go_wp2_with fail
    go_ret
    exact ⟨ret_i64 HX.out.symm, hB.trans (hb.mono hB.size)⟩

def MadeCl (x : Cl) (w : World) (e : Ending) (w' : World) : Prop := ∃ v F, e = .returned (.agg #[v]) ∧ D.own w' v (Lit.sd x.ls) F ∧ (∀ y ∈ F, w.heap.size ≤ y) ∧ Below w.heap.size w w'
set_option maxHeartbeats 400000 in
theorem toCl_any (x : Cl) : ∀ (S : Nat → Prop) (c0 : Value) (w : World), Cl.at S w c0 x → x.bulk ≤ 1048576 → Calls Tryz.prog 7 #[.agg #[c0]] w (MadeCl x w) := by
  intro S c0 w hr hbk
  obtain ⟨a, cap, rfl⟩ := Cl.at_form hr
  rw [Cl.bulk] at hbk
  go_enter Tryz.func7, Tryz.ntmps7
  go_wp2_with fail
  refine (toLitS_any x.ls S _ _ (Cl.at_keep ?hk hr) hbk).mono ?_
  case hk => exact (((Keeps.refl _ _).alloc _).alloc _).alloc _
  rintro e w1 ⟨v, F, rfl, ho, hF, hb⟩
  obtain ⟨a', cap', rfl⟩ := Lit.sd_own_form ho
  obtain ⟨hc, hf⟩ := bcell hb
  have hz := hb.size
  simp only [World.size_alloc] at hc hf hz hF
  go_wp2_with fail
  refine bodyPost_ret (v := .agg #[.slice a' x.ls.length cap']) (by simp [results, Tryz.results7, go_sem, hc]) rfl ?_
  refine ⟨_, F, rfl, D.own_keep _ _ _ ?_ ho, fun x hx => by have := hF x hx; omega, ?_⟩
  · exact ((Keeps.refl _ _).set_lt hF (by simp) _).set_lt hF (by simp) _
  · exact (((((Below.refl _ _).alloc (Nat.le_refl _) _).alloc (by simp) _).alloc (by simp; omega) _).trans (hb.mono (by simp; omega))).setCell (by simp; omega) _ |>.setCell (by simp) _

/-- the value is a clause that reads as x -/
def IsC (x : Cl) (v : Value) (w : World) : Prop := ∃ v', v = .agg #[v'] ∧ Cl.at (fun _ => True) w v' x
theorem IsC.form {x : Cl} {v : Value} {w : World} (h : IsC x v w) : ∃ a cap, v = .agg #[.slice a x.ls.length cap] ∧ Cl.at (fun _ => True) w (.slice a x.ls.length cap) x := by
  obtain ⟨v', rfl, h⟩ := h
  obtain ⟨a, cap, rfl⟩ := Cl.at_form h
  exact ⟨a, cap, rfl, h⟩
theorem IsC.stable {x : Cl} {w : World} : ∀ v w1 w2, Below w.heap.size w w1 → Below w1.heap.size w1 w2 → IsC x v w1 → IsC x v w2 :=
  fun _ _ _ _ hb ⟨v', e, h⟩ => ⟨v', e, Cl.at_keep (Keeps.all hb) h⟩
theorem toCl_is {x : Cl} {S : Nat → Prop} {c0 : Value} {w : World} (h : Cl.at S w c0 x) (hb : x.bulk ≤ 1048576) :
    Calls Tryz.prog 7 #[.agg #[c0]] w (Yields w (IsC x)) :=
  (toCl_any x S c0 w h hb).mono fun _ _ ⟨v, _, he, ho, _, hbl⟩ => ⟨_, he, hbl, v, rfl, D.rd_mono (fun _ _ => trivial) _ _ (D.own_rd _ _ _ ho)⟩

set_option maxHeartbeats 400000 in
theorem eqCl_any (x u : Cl) : ∀ (S : Nat → Prop) (c0 d0 : Value) (w : World), Cl.at S w c0 x → Cl.at S w d0 u → Calls Tryz.prog 9 #[.agg #[c0], .agg #[d0]] w (Gives w (.bool (Lit.eqbs x.ls u.ls))) := by
  intro S c0 d0 w hr hr'
  obtain ⟨a, cap, rfl⟩ := Cl.at_form hr
  obtain ⟨a', cap', rfl⟩ := Cl.at_form hr'
  go_enter Tryz.func9, Tryz.ntmps9
  go_wp2_with fail
  refine (eqLitS_any x.ls u.ls S _ _ _ (Cl.at_keep (((Keeps.refl _ _).alloc _).alloc _) hr) (Cl.at_keep (((Keeps.refl _ _).alloc _).alloc _) hr')).mono ?_
  rintro e w1 ⟨rfl, hb⟩
  have hb' : Below w.heap.size w w1 := (((Below.refl _ _).alloc (Nat.le_refl _) _).alloc (by simp) _).trans (hb.mono (by simp; omega))
  by_cases he : Lit.eqbs x.ls u.ls = true
  all_goals
    first | rw [he] | rw [Bool.eq_false_iff.2 he]
    go_wp2_with fail
    go_ret
    exact Gives.mk (ret_bool (by simp [he])) hb'
theorem eqCl_refl {x : Cl} {S : Nat → Prop} {c0 d0 : Value} {w : World} (h : Cl.at S w c0 x) (k : Cl.at S w d0 x) : Calls Tryz.prog 9 #[.agg #[c0], .agg #[d0]] w (Gives w (.bool true)) := by
  have := eqCl_any x x S c0 d0 w h k
  rwa [(Lit.eqbs_iff _ _).2 rfl] at this

theorem cellsLLiteralS : Tryz.prog.cellsOf 22 = 1 := by kernel_rfl
theorem cellsLClause : Tryz.prog.cellsOf 24 = 1 := by kernel_rfl
theorem clen1 {α : Type} {l : List α} (h : l.length = 1) : ∃ a, l = [a] := by
  match l, h with
  | [a], _ => exact ⟨a, rfl⟩
section
variable {H : Type} {enc' : TypeId × Value → H} {w : World}
theorem read_cl : ∀ (fuel : Nat) (cs : List Value) (x : DataW H × List MemPlace), DataW.trod enc' Tryz.prog w 0 (fun _ => true) true fuel 24 cs = some x → ∃ (v : Value) (t : Cl), cs = [v] ∧ Cl.at (fun _ => True) w v t := by
  intro fuel cs x h
  obtain ⟨xs, n, rfl, rfl, hl, hlen, hf⟩ := DataW.trod_struct Tryz.underlying24 h
  rw [cellsLClause] at hl
  obtain ⟨c0, rfl⟩ := clen1 hl
  have h0 := hf 0 _ rfl
  have g0 : ∃ x0, xs[0]? = some x0 := ⟨_, List.getElem?_eq_getElem (by rw [hlen]; decide)⟩
  obtain ⟨x0, g0⟩ := g0
  rw [g0] at h0
  obtain ⟨v, ts, hv, hr⟩ := open_slOf Lit.wide (by decide) Tryz.underlying22 cellsLLiteral (fun m cs' x' _ hx => read_lit m cs' x' hx) h0
  have hv' : c0 = v := by simpa [cellsLLiteralS] using hv
  subst hv'
  exact ⟨c0, ⟨ts⟩, rfl, hr⟩
theorem open_Clause {r : Reach} {b0 : Nat} {v : Value} {d : DataW H} {p : List MemPlace} (hv : Value.okWide Tryz.prog w r b0 24 v) (h : DataW.Trod enc' Tryz.prog w 0 (fun _ => true) true 24 v d p) :
    ∃ c0 t, v = .agg #[c0] ∧ Cl.at (fun _ => True) w c0 t := by
  obtain ⟨cs, rfl, hsz⟩ := okWide_struct Tryz.underlying24 hv
  obtain ⟨fuel, hf⟩ := h
  obtain ⟨v, t, ht, hr⟩ := read_cl fuel _ _ hf
  have e : cs = #[v] := by apply Array.toList_inj.1; exact ht
  subst e
  exact ⟨v, t, rfl, hr⟩
end
end Go.Proofs.YtooocakkjdhfiaaGreatDoor
/- What a law that marks its arguments and its results carries along. -/
namespace Go.Proofs.YtooocakkjdhfiaaGreatDoor
set_option maxRecDepth 100000
open Go.RowKit

theorem D.rd_lt {S : Nat → Prop} {w : World} : ∀ (d : D) (v : Value), D.rd S w v d → D.rd (· < w.heap.size) w v d := by
  refine D.ind (fun s v h => by rw [D.rd] at h ⊢; exact h) (fun n v h => by rw [D.rd] at h ⊢; exact h) (fun b v h => by rw [D.rd] at h ⊢; exact h) (fun n cs ih v h => ?_)
  rw [D.rd] at h ⊢
  obtain ⟨a, cap, h0, h1, h2, h3, h4⟩ := h
  refine ⟨a, cap, h0, h1, h2, h3, fun hne => ?_⟩
  obtain ⟨b, off, q0, q1, q2, q3⟩ := h4 hne
  refine ⟨b, off, q0, q2, q2, (D.rds_iff _ _).2 fun i hi => ?_⟩
  obtain ⟨v, r0, r1⟩ := (D.rds_iff _ _).1 q3 i hi
  exact ⟨v, r0, ih _ (List.getElem_mem hi) _ r1⟩
theorem D.rd_all {S : Nat → Prop} {w : World} {d : D} {v : Value} (h : D.rd S w v d) : D.rd (fun _ => True) w v d := D.rd_mono (fun _ _ => trivial) _ _ h
theorem Mk.lt {F : List Nat} {w w' : World} {U : Nat} (h : Mk F w w') (hF : ∀ x ∈ F, U ≤ x) : Keeps (· < U) w w' := h.1.mono fun b hb q => by have := hF b q; omega
theorem Mk.apart {F G : List Nat} {w w' : World} (h : Mk F w w') (hd : ∀ x ∈ G, x ∉ F) : Keeps (· ∈ G) w w' := h.1.mono hd
theorem Box.marked {w w' : World} {b : Nat} {cs : List Value} {F : List Nat} (h : Box w b cs) (hm : Mk F w w') (hb : b ∉ F) : Box w' b cs :=
  ⟨Nat.lt_of_lt_of_le h.lt hm.size, fun i hi => (hm.1.cell hb h.lt).trans (h.cell i hi)⟩

/-- a result that the call owns, and a bool -/
def OutD (mk : Value → Value) (d : D) (ok : Bool) (w : World) (e : Ending) (w' : World) : Prop := ∃ v F, e = .returned (.tuple #[mk v, .bool ok]) ∧ D.own w' v d F ∧ (∀ x ∈ F, w.heap.size ≤ x) ∧ Below w.heap.size w w'
/-- a result that reads, and a bool -/
def RdD (mk : Value → Value) (d : D) (ok : Bool) (w : World) (e : Ending) (w' : World) : Prop := ∃ v, e = .returned (.tuple #[mk v, .bool ok]) ∧ D.rd (fun _ => True) w' v d ∧ Below w.heap.size w w'
theorem OutD.rd {mk : Value → Value} {d : D} {ok : Bool} {w : World} {e : Ending} {w' : World} (h : OutD mk d ok w e w') : RdD mk d ok w e w' := by
  obtain ⟨v, F, he, ho, _, hb⟩ := h
  exact ⟨v, he, D.rd_all (D.own_rd _ _ _ ho), hb⟩
theorem Tm.at_lt {S : Nat → Prop} {w : World} {c0 c1 : Value} {t : Tm} (h : Tm.at S w c0 c1 t) : Tm.at (· < w.heap.size) w c0 c1 t := ⟨D.rd_lt _ _ h.1, D.rd_lt _ _ h.2⟩
theorem Tm.at_all {S : Nat → Prop} {w : World} {c0 c1 : Value} {t : Tm} (h : Tm.at S w c0 c1 t) : Tm.at (fun _ => True) w c0 c1 t := ⟨D.rd_all h.1, D.rd_all h.2⟩
theorem Tm.at_of {w : World} {t : Tm} {v : Value} {F : List Nat} (hn : t.name.size ≤ maxLen) (h : D.own w v (Tm.sd t.args) F) : Tm.at (fun _ => True) w (.string t.name) v t := ⟨D.rd_str hn, D.rd_all (D.own_rd _ _ _ h)⟩
theorem Tm.sizes_le_bulk (t : Tm) : Tm.sizes t.args ≤ t.bulk := by
  have h := Tm.size_bulk t
  have : t.size = 1 + Tm.sizes t.args := by cases t; rw [Tm.size]; rfl
  omega
theorem Tm.name_le {t : Tm} (h : t.bulk ≤ 1048576) : t.name.size ≤ maxLen := by
  cases t
  rw [Tm.bulk] at h
  unfold maxLen
  show _ ≤ 9223372036854775807
  simp only [Tm.name]
  omega
/-- the value reads as the datum -/
def RdV (d : D) (v : Value) (w : World) : Prop := D.rd (fun _ => True) w v d
def IsTup (P : Value → World → Prop) (ok : Bool) (v : Value) (w : World) : Prop := ∃ v', v = .tuple #[v', .bool ok] ∧ P v' w
theorem RdV.stable {d : D} {w : World} : ∀ v w1 w2, Below w.heap.size w w1 → Below w1.heap.size w1 w2 → RdV d v w1 → RdV d v w2 := fun _ _ _ _ hb h => D.rd_keep (Keeps.all hb) _ _ h
theorem IsTup.stable {d : D} {ok : Bool} {w : World} : ∀ v w1 w2, Below w.heap.size w w1 → Below w1.heap.size w1 w2 → IsTup (RdV d) ok v w1 → IsTup (RdV d) ok v w2 :=
  fun _ _ _ h hb ⟨v', e, g⟩ => ⟨v', e, RdV.stable _ _ _ h hb g⟩
theorem RdD.yields {d : D} {ok : Bool} {w : World} {e : Ending} {w' : World} (h : RdD id d ok w e w') : After (Both (fun a b => Below a.heap.size a b) (IsTup (RdV d) ok) w) e w' := by
  obtain ⟨v, rfl, hr, hb⟩ := h
  exact ⟨_, rfl, hb, v, rfl, hr⟩
/-- a result of which the call owns the memory, as far as reading tells, and a bool -/
def RdN (mk : Value → Value) (d : D) (ok : Bool) (w : World) (e : Ending) (w' : World) : Prop := ∃ v, e = .returned (.tuple #[mk v, .bool ok]) ∧ D.rd (fun x => w.heap.size ≤ x) w' v d ∧ Below w.heap.size w w'
def noTm : Tm := .node ByteArray.empty []
theorem noTm_at {S : Nat → Prop} {w : World} : Tm.at S w (.string ByteArray.empty) (.slice .none 0 0) noTm := by
  refine ⟨D.rd_str (by decide), ?_⟩
  rw [noTm, Tm.args, Tm.sd, D.rd]
  exact ⟨_, _, rfl, by simp, by simp, by simp, by simp [Tm.css]⟩
/-- a term that the call owns, and a bool -/
def OutT (t : Tm) (ok : Bool) (w : World) (e : Ending) (w' : World) : Prop := ∃ v F, e = .returned (.tuple #[.agg #[.string t.name, v], .bool ok]) ∧ D.own w' v (Tm.sd t.args) F ∧ (∀ x ∈ F, w.heap.size ≤ x) ∧ Below w.heap.size w w'
/-- a term that reads, and a bool -/
def RdT (t : Tm) (ok : Bool) (w : World) (e : Ending) (w' : World) : Prop := ∃ v, e = .returned (.tuple #[.agg #[.string t.name, v], .bool ok]) ∧ Tm.at (fun _ => True) w' (.string t.name) v t ∧ Below w.heap.size w w'
theorem noTm_own {w : World} : D.own w (.slice none 0 0) (Tm.sd noTm.args) [] := D.own_nil _ _
end Go.Proofs.YtooocakkjdhfiaaGreatDoor
/- Literals that a call owns are marked. -/
namespace Go.Proofs.YtooocakkjdhfiaaGreatDoor
set_option maxRecDepth 100000
open Go.RowKit

def litHd (k : Nat) : D := .bit (decide (k % 3 = 0))
def litAs (ls : List Lit) : List (List Tm) := ls.map fun l => l.atom.args
theorem litAs_get (ls : List Lit) (j : Nat) (h : j < ls.length) (h' : j < (litAs ls).length) : (litAs ls)[j] = ls[j].atom.args := by simp [litAs]
theorem litAs_length (ls : List Lit) : (litAs ls).length = ls.length := by simp [litAs]
set_option maxHeartbeats 2000000 in
theorem markLitS_any (ls : List Lit) (k : Nat) {v : Value} {F : List Nat} {w : World} (hk : k + c3 (litAs ls) ≤ 1099511627776) (ho : D.own w v (Lit.sd ls) F) :
    Calls Tryz.prog 22 #[v, .int .i64 k] w fun e w' => e = .returned (.int .i64 (k + c3 (litAs ls) : Nat)) ∧ Mk F w w' ∧ D.own w' v (.sl ls.length (m3 litHd (litAs ls) k)) F := by
  obtain ⟨ds, Hds⟩ : ∃ ds, Hid (ls.flatMap Lit.cs = ds) := ⟨_, hid rfl⟩
  have HL : Hid (ds.length = ls.length * 3) := by rw [Hid, ← Hds.out]; exact flat_length (m := 3) (fun _ => rfl) ls
  have HG : Hid (∀ j (h : j < ls.length), ds[j * 3]? = some (.bit ls[j].pos) ∧ ds[j * 3 + 1]? = some (.str ls[j].atom.name) ∧ ds[j * 3 + 2]? = some (Tm.sd ls[j].atom.args)) := by
    intro j h
    rw [← Hds.out]
    have g := fun i (hi : i < 3) => flat_get (enc := Lit.cs) (m := 3) (fun _ => rfl) ls j i h hi
    exact ⟨g 0 (by decide), g 1 (by decide), g 2 (by decide)⟩
  have ho' : D.own w v (.sl ls.length ds) F := by rw [← Hds.out]; exact ho
  clear ho Hds
  obtain ⟨a, cap, rfl⟩ : ∃ a cap, v = .slice a ls.length cap := by rw [D.own] at ho'; obtain ⟨a, cap, e, _⟩ := ho'; exact ⟨a, cap, e⟩
  have hlen : ls.length ≤ 9223372036854775807 := by rw [D.own] at ho'; obtain ⟨_, _, _, h, _⟩ := ho'; exact h
  go_enter Tryz.func22, Tryz.ntmps22
  go_wp2_with fail
  go_loopw [1, 5] (fun x i wr => ∃ j : Nat, j ≤ ls.length ∧ i = .int .i64 j ∧ x = .int .i64 (k + c3 ((litAs ls).take j) : Nat) ∧ Hid (D.own wr (.slice a ls.length cap) (.sl ls.length (m3 litHd ((litAs ls).take j) k ++ ds.drop (j * 3))) F) ∧ Mk F w wr) (fun _ i _ => ls.length - (intOf i).toNat)
  case atStart => exact ⟨0, Nat.zero_le _, rfl, by simp [c3], by rw [List.take_zero, m3, List.nil_append, Nat.zero_mul, List.drop_zero]; exact ho', Mk.refl _ _⟩
  case round =>
    obtain ⟨j, hj, rfl, rfl, HO, hm⟩ := hrel
    by_cases hlt : j < ls.length
    · have hal := litAs_length ls
      have hst := c3_take (litAs ls) j (by omega)
      have hsl := c3_le (litAs ls) (j + 1)
      obtain ⟨q, HQ⟩ : ∃ q, Hid (k + c3 ((litAs ls).take j) = q) := ⟨_, hid rfl⟩
      rw [HQ.out]
      obtain ⟨A, HA⟩ : ∃ A, Hid (m3 litHd ((litAs ls).take j) k = A) := ⟨_, hid rfl⟩
      have HAl : Hid (j * 3 = A.length) := by rw [Hid, ← HA.out, m3_length, List.length_take]; congr 1; omega
      obtain ⟨x, y, z, hdr, g0, g1, g2⟩ := drop3 HL.out hlt
      obtain ⟨e0, e1, e2⟩ := HG.out j hlt
      obtain rfl : x = .bit ls[j].pos := by rw [g0] at e0; injection e0
      obtain rfl : y = .str ls[j].atom.name := by rw [g1] at e1; injection e1
      obtain rfl : z = Tm.sd ls[j].atom.args := by rw [g2] at e2; injection e2
      obtain ⟨R, HR⟩ : ∃ R, Hid (ds.drop ((j + 1) * 3) = R) := ⟨_, hid rfl⟩
      have h0 := HO.out
      rw [HA.out, hdr, HR.out] at h0
      have H0 := hid h0
      obtain ⟨b, off, F', rfl, rfl⟩ := own_at h0 (by simp)
      obtain ⟨⟨u0, x0⟩, f0⟩ := own_cell h0 (i := j * 3) (by rw [HAl.out]; simp)
      rw [litAs_get ls j hlt (by omega)] at hst
      have hq : q + 2 + Tm.sizes ls[j].atom.args ≤ 1099511627776 := by have := HQ.out; omega
      clear g0 g1 g2 e0 e1 e2 hdr h0 hst hsl hal
      go_wp2_with fail
      have H1 : Hid (D.own (wr.setCell ⟨b, off + j * 3, none⟩ (.bool ((q : Int) % 3 == 0))) (.slice (some ⟨b, off, none⟩) ls.length cap) (.sl ls.length ((A ++ [litHd q]) ++ .str ls[j].atom.name :: Tm.sd ls[j].atom.args :: R)) (b :: F')) := by
        have h := own_put H0.out (i := j * 3) (u := .bool ((q : Int) % 3 == 0)) (d := litHd q) HAl.out trivial (fun w' => by
          rw [litHd, D.own]
          refine ⟨?_, rfl⟩
          congr 1
          rw [Bool.eq_iff_iff]; simp; omega)
        rw [Hid]
        simpa using h
      have HMT := markText_any (q + 1) (by omega) (wr.setCell ⟨b, off + j * 3, none⟩ (.bool ((q : Int) % 3 == 0)))
      rw [show ((q + 1 : Nat) : Int) = (q : Int) + 1 from by omega] at HMT
      refine HMT.mono ?_
      rintro e w1 ⟨_, rfl, hb1, rfl⟩
      have HB1 : Hid (j * 3 + 1 = (A ++ [litHd q]).length) := by rw [Hid, List.length_append, ← HAl.out]; rfl
      have H1' := hid (D.own_keep _ _ _ (Keeps.all hb1) H1.out)
      obtain ⟨⟨u1, x1⟩, f1⟩ := own_cell H1'.out (i := j * 3 + 1) (by rw [HB1.out]; simp)
      rw [← Nat.add_assoc] at x1 f1
      have H2 : Hid (D.own (w1.setCell ⟨b, off + j * 3 + 1, none⟩ (.string (bs (mtext (q + 1))))) (.slice (some ⟨b, off, none⟩) ls.length cap) (.sl ls.length ((A ++ [litHd q, .str (bs (mtext (q + 1)))]) ++ Tm.sd ls[j].atom.args :: R)) (b :: F')) := by
        have h := own_put H1'.out (i := j * 3 + 1) (u := .string (bs (mtext (q + 1)))) (d := .str (bs (mtext (q + 1)))) HB1.out trivial (fun w' => D.own_str (by rw [bs_size]; have := mtext_length (q + 1); unfold maxLen; omega))
        rw [← Nat.add_assoc] at h
        rw [Hid]
        simpa using h
      have HB2 : Hid (j * 3 + 2 = (A ++ [litHd q, .str (bs (mtext (q + 1)))]).length) := by rw [Hid, List.length_append, ← HAl.out]; rfl
      obtain ⟨Fj, vj, y0, y1, hsub, hbj, hup⟩ := D.own_sub H2.out (j := j * 3 + 2) (by rw [HB2.out]; simp)
      rw [get_mid HB2.out] at y1
      have y2 : w1.cell? ⟨b, off + j * 3 + 1 + 1, none⟩ = some vj := by
        have y3 := y0
        rw [World.cell?_setCell_other _ _ _ _ (by intro e; injection e with _ e; omega)] at y3
        rw [show off + j * 3 + 1 + 1 = off + (j * 3 + 2) by omega]
        exact y3
      have HU := hid hup
      have hz1 := hb1.size
      have HM1 := hid (((hm.trans (Mk.set (p := off + j * 3) (List.mem_cons_self ..) _)).trans (Mk.of_below hb1)).trans (Mk.set (p := off + j * 3 + 1) (List.mem_cons_self ..) (.string (bs (mtext (q + 1))))))
      have HRT := markTermS_any ls[j].atom.args (q + 2) _ _ _ (by omega) y1
      rw [show ((q + 2 : Nat) : Int) = (q : Int) + 1 + 1 from by omega] at HRT
      have HE : Hid (q + 2 + Tm.sizes ls[j].atom.args = k + c3 ((litAs ls).take (j + 1))) := by
        rw [Hid, c3_take (litAs ls) j (by rw [litAs_length]; exact hlt), litAs_get ls j hlt (by rw [litAs_length]; exact hlt), ← HQ.out]; omega
      clear hup HMT x0 f0 y0 y1
      go_wp2_with fail
      refine HRT.mono ?_
      rintro e w2 ⟨rfl, hm2, ho2⟩
      have HX := hid (HU.out w2 _ ho2 hm2.1)
      have HM2 := hid (HM1.out.trans (hm2.mono hsub))
      have HN2 : Hid (D.own w2 (.slice (some ⟨b, off, none⟩) ls.length cap) (.sl ls.length (m3 litHd ((litAs ls).take (j + 1)) k ++ ds.drop ((j + 1) * 3))) (b :: F')) := by
        have h1 := HX.out
        rw [set_mid HB2.out] at h1
        rw [Hid, List.take_succ_eq_append_getElem (by rw [litAs_length]; exact hlt), m3_snoc, HA.out, HQ.out, HR.out, litAs_get ls j hlt (by rw [litAs_length]; exact hlt)]
        simpa using h1
      rw [HE.out]
      clear HRT hm2 ho2 HX
      go_wp2_with fail
      go_roundw
      case rel => exact ⟨j + 1, by omega, by go_num, rfl, HN2, HM2.out⟩
      case measure => simp [intOf]; omega
    · obtain rfl : j = ls.length := by omega
      go_wp2_with fail
      go_ret
      have hal := litAs_length ls
      refine ⟨by rw [← hal, List.take_length]; rfl, hm, ?_⟩
      have := HO.out
      rw [← hal, List.take_length, hal, ← HL.out, List.drop_length, List.append_nil] at this
      exact this
set_option maxHeartbeats 1000000 in
theorem markCl_any (ls : List Lit) (k : Nat) {v : Value} {F : List Nat} {w : World} (hk : k + c3 (litAs ls) ≤ 1099511627776) (ho : D.own w v (Lit.sd ls) F) :
    Calls Tryz.prog 10 #[.agg #[v], .int .i64 k] w fun e w' => e = .returned (.int .i64 (k + c3 (litAs ls) : Nat)) ∧ Mk F w w' ∧ D.own w' v (.sl ls.length (m3 litHd (litAs ls) k)) F := by
  obtain ⟨a, cap, rfl⟩ := Lit.sd_own_form ho
  have hW : Below w.heap.size w (w.alloc (.cells #[.slice a ls.length cap] 28)) := (Below.refl _ _).alloc (Nat.le_refl _) _
  have hq := markLitS_any ls k hk (D.own_keep _ _ _ (Keeps.all hW) ho)
  go_enter Tryz.func10, Tryz.ntmps10
  go_wp2_with fail
  refine hq.mono ?_
  rintro e w1 ⟨rfl, hm, ho1⟩
  go_wp2_with fail
  go_ret
  exact ⟨rfl, (Mk.of_below hW).trans hm, ho1⟩
theorem c3_bulk (ls : List Lit) : c3 (litAs ls) ≤ 2 * ls.length + Lit.bulks ls := by
  induction ls with
  | nil => simp [litAs, c3]
  | cons l ls ih =>
    have := Tm.size_bulk l.atom
    have h2 : l.atom.size = 1 + Tm.sizes l.atom.args := by cases l.atom; rw [Tm.size]; rfl
    simp only [litAs, List.map_cons, c3, List.length_cons, Lit.bulks, Lit.bulk] at *
    omega
theorem c3_le_bulk (t : Cl) : c3 (litAs t.ls) ≤ 2 * t.bulk := by
  have := c3_bulk t.ls
  rw [Cl.bulk]; omega
theorem Cl.at_lt {S : Nat → Prop} {w : World} {c0 : Value} {t : Cl} (h : Cl.at S w c0 t) : Cl.at (· < w.heap.size) w c0 t := D.rd_lt _ _ h
theorem Cl.at_all {S : Nat → Prop} {w : World} {c0 : Value} {t : Cl} (h : Cl.at S w c0 t) : Cl.at (fun _ => True) w c0 t := D.rd_all h
theorem Cl.at_of {w : World} {t : Cl} {v : Value} {F : List Nat} (h : D.own w v (Lit.sd t.ls) F) : Cl.at (fun _ => True) w v t := D.rd_all (D.own_rd _ _ _ h)
end Go.Proofs.YtooocakkjdhfiaaGreatDoor
