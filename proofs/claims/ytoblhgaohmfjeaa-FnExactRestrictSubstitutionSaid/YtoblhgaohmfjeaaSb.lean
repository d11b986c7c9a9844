/- Bindings and substitutions: as data, and how a law measures, copies and compares them. -/
import Derived.Test.YtoblhgaohmfjeaaRows
import Derived.Test.YtoblhgaohmfjeaaBr
import Derived.Test.YtoblhgaohmfjeaaBrT
import Derived.Test.YtoblhgaohmfjeaaSz
import Derived.Test.YtoblhgaohmfjeaaTo
import Derived.Test.YtoblhgaohmfjeaaEq
import Derived.WalkSpells
import Derived.WalkLawsBesides
namespace Go.Proofs.Ytoblhgaohmfjeaa
set_option maxRecDepth 100000
open Go.RowKit Go.ChangeShapes Go.WideShapes

/-- a name and a term -/
structure Bnd where
  var : ByteArray
  term : Tm
def Bnd.cs (x : Bnd) : List D := [.str x.var, .str x.term.name, Tm.sd x.term.args]
def Bnd.bulk (x : Bnd) : Nat := x.var.size + x.term.bulk
def Bnd.eqb (x y : Bnd) : Bool := decide (x.var = y.var) && Tm.eqb x.term y.term
theorem Bnd.eqb_iff (x y : Bnd) : Bnd.eqb x y = true ↔ x = y := by
  obtain ⟨p, a⟩ := x
  obtain ⟨q, b⟩ := y
  simp [Bnd.eqb, Tm.eqb_iff]

/-- 3 cells read as an item -/
def Bnd.at (S : Nat → Prop) (w : World) (c0 c1 c2 : Value) (x : Bnd) : Prop := D.rd S w c0 (.str x.var) ∧ D.rd S w c1 (.str x.term.name) ∧ D.rd S w c2 (Tm.sd x.term.args)
theorem Bnd.at_keep {S : Nat → Prop} {w w' : World} {c0 c1 c2 : Value} {x : Bnd} (hk : Keeps S w w') (h : Bnd.at S w c0 c1 c2 x) : Bnd.at S w' c0 c1 c2 x :=
  ⟨D.rd_keep hk _ _ h.1, D.rd_keep hk _ _ h.2.1, D.rd_keep hk _ _ h.2.2⟩
theorem Bnd.at_mono {S S' : Nat → Prop} {w : World} {c0 c1 c2 : Value} {x : Bnd} (hs : ∀ b, S b → S' b) (h : Bnd.at S w c0 c1 c2 x) : Bnd.at S' w c0 c1 c2 x :=
  ⟨D.rd_mono hs _ _ h.1, D.rd_mono hs _ _ h.2.1, D.rd_mono hs _ _ h.2.2⟩
def Bnd.sd (xs : List Bnd) : D := slOf Bnd.cs xs
theorem Bnd.wide : Wide Bnd.cs 3 := fun x => by cases x; simp [Bnd.cs]
theorem Bnd.sd_is (xs : List Bnd) : Bnd.sd xs = slOf Bnd.cs xs := rfl
theorem Bnd.sd_form {S : Nat → Prop} {w : World} {v : Value} {xs : List Bnd} (h : D.rd S w v (Bnd.sd xs)) : ∃ a cap, v = .slice a xs.length cap ∧ xs.length ≤ big ∧ xs.length ≤ cap := slOf_form (Bnd.sd_is xs ▸ h)
theorem Bnd.at_form {S : Nat → Prop} {w : World} {c0 c1 c2 : Value} {x : Bnd} (h : Bnd.at S w c0 c1 c2 x) : c0 = .string x.var ∧ c1 = .string x.term.name ∧ (∃ a cap, c2 = .slice a x.term.args.length cap) :=
  ⟨by have q := h.1; rw [D.rd] at q; first | exact q | exact q.1, by have q := h.2.1; rw [D.rd] at q; first | exact q | exact q.1, by obtain ⟨a, cap, e, _⟩ := Tm.sd_form h.2.2; exact ⟨a, cap, e⟩⟩
theorem Bnd.cs_eq (x : Bnd) : Bnd.cs x = [(.str x.var), (.str x.term.name), (Tm.sd x.term.args)] := by cases x; simp [Bnd.cs]
theorem Bnd.sd_get {S : Nat → Prop} {w : World} {a : Option Addr} {n cap : Nat} {xs : List Bnd} (h : D.rd S w (.slice a n cap) (Bnd.sd xs)) (hne : xs ≠ []) : ∃ b off, a = some ⟨b, off, none⟩ ∧ S b ∧ b < w.heap.size ∧
    ∀ k (hk : k < xs.length), ∃ c0 c1 c2, w.cell? ⟨b, off + k * 3, none⟩ = some c0 ∧ w.cell? ⟨b, off + k * 3 + 1, none⟩ = some c1 ∧ w.cell? ⟨b, off + k * 3 + 2, none⟩ = some c2 ∧ Bnd.at S w c0 c1 c2 xs[k] := by
  rw [Bnd.sd_is] at h
  obtain ⟨b, off, q0, q1, q2, hr⟩ := slOf_get Bnd.wide (by decide) h hne
  refine ⟨b, off, q0, q1, q2, fun k hk => ?_⟩
  obtain ⟨c0, r0, s0⟩ := hr k hk 0 (.str xs[k].var) (by rw [Bnd.cs_eq]; rfl)
  obtain ⟨c1, r1, s1⟩ := hr k hk 1 (.str xs[k].term.name) (by rw [Bnd.cs_eq]; rfl)
  obtain ⟨c2, r2, s2⟩ := hr k hk 2 (Tm.sd xs[k].term.args) (by rw [Bnd.cs_eq]; rfl)
  exact ⟨c0, c1, c2, by rw [← r0]; congr 2, by rw [← r1]; congr 2, by rw [← r2]; congr 2, s0, s1, s2⟩
def Bnd.css (xs : List Bnd) : List D := xs.flatMap Bnd.cs
theorem Bnd.css_flat (xs : List Bnd) : Bnd.css xs = xs.flatMap Bnd.cs := rfl
theorem Bnd.css_length (xs : List Bnd) : (Bnd.css xs).length = xs.length * 3 := by rw [Bnd.css_flat]; exact flat_length Bnd.wide xs
theorem Bnd.css_ne {xs : List Bnd} (h : xs ≠ []) : Bnd.css xs ≠ [] := by rw [Bnd.css_flat]; exact flat_ne Bnd.wide (by decide) h
theorem Bnd.css_take_succ (xs : List Bnd) (k : Nat) (hk : k < xs.length) : Bnd.css (xs.take (k + 1)) = Bnd.css (xs.take k) ++ [(.str xs[k].var), (.str xs[k].term.name), (Tm.sd xs[k].term.args)] := by rw [Bnd.css_flat, Bnd.css_flat, flat_take_succ _ _ hk, Bnd.cs_eq]
theorem Bnd.sd_css (xs : List Bnd) : Bnd.sd xs = .sl xs.length (Bnd.css xs) := by rw [Bnd.sd_is, slOf, Bnd.css_flat]
def Bnd.bulks : List Bnd → Nat
  | [] => 0
  | t :: ts => Bnd.bulk t + Bnd.bulks ts
def Bnd.eqbs : List Bnd → List Bnd → Bool
  | [], [] => true
  | t :: ts, u :: us => Bnd.eqb t u && Bnd.eqbs ts us
  | _, _ => false
theorem Bnd.eqbs_iff : ∀ ts us : List Bnd, Bnd.eqbs ts us = true ↔ ts = us
  | [], [] => by simp [Bnd.eqbs]
  | [], _ :: _ => by simp [Bnd.eqbs]
  | _ :: _, [] => by simp [Bnd.eqbs]
  | t :: ts, u :: us => by simp [Bnd.eqbs, Bnd.eqb_iff, Bnd.eqbs_iff ts us]
theorem Bnd.bulks_le : ∀ (ts : List Bnd) (k : Nat), Bnd.bulks (ts.take k) ≤ Bnd.bulks ts
  | [], k => by simp
  | t :: ts, 0 => by simp [Bnd.bulks]
  | t :: ts, k + 1 => by
    have := Bnd.bulks_le ts k
    simp only [List.take_succ_cons, Bnd.bulks]; omega
theorem Bnd.bulks_take : ∀ (ts : List Bnd) (k : Nat) (hk : k < ts.length), Bnd.bulks (ts.take (k + 1)) = Bnd.bulks (ts.take k) + Bnd.bulk ts[k]
  | [], k, hk => absurd hk (by simp)
  | t :: ts, 0, _ => by simp [Bnd.bulks]
  | t :: ts, k + 1, hk => by
    have := Bnd.bulks_take ts k (by simpa using hk)
    simp only [List.take_succ_cons, Bnd.bulks, this, List.getElem_cons_succ]; omega
theorem Bnd.bulk_mem {ts : List Bnd} {t : Bnd} (h : t ∈ ts) : Bnd.bulk t ≤ Bnd.bulks ts := by
  induction ts with
  | nil => cases h
  | cons a ts ih =>
    rw [Bnd.bulks]
    rcases List.mem_cons.1 h with rfl | h
    · omega
    · have := ih h; omega
theorem Bnd.eqbs_length {ts us : List Bnd} (h : ts.length ≠ us.length) : Bnd.eqbs ts us = false := by
  rw [Bool.eq_false_iff]; intro e; exact h (by rw [(Bnd.eqbs_iff _ _).1 e])
theorem Bnd.eqbs_at {ts us : List Bnd} {k : Nat} (h1 : k < ts.length) (h2 : k < us.length) (hn : Bnd.eqb ts[k] us[k] = false) : Bnd.eqbs ts us = false := by
  rw [Bool.eq_false_iff]; intro e
  have := (Bnd.eqbs_iff _ _).1 e
  subst this
  rw [(Bnd.eqb_iff _ _).2 rfl] at hn
  exact absurd hn (by simp)
theorem Bnd.eqbs_take {ts us : List Bnd} {k : Nat} (h1 : k < ts.length) (h2 : k < us.length) (h : ts.take k = us.take k) (hn : Bnd.eqb ts[k] us[k] = true) : ts.take (k + 1) = us.take (k + 1) := by
  rw [List.take_succ_eq_append_getElem h1, List.take_succ_eq_append_getElem h2, h, (Bnd.eqb_iff _ _).1 hn]
theorem Bnd.own0 {S : Nat → Prop} {w w' : World} {c0 c1 c2 : Value} {x : Bnd} (h : Bnd.at S w c0 c1 c2 x) : D.own w' (.string x.var) (.str x.var) [] := D.own_str (by have q := h.1; rw [D.rd] at q; exact q.2)
theorem Bnd.own1 {S : Nat → Prop} {w w' : World} {c0 c1 c2 : Value} {x : Bnd} (h : Bnd.at S w c0 c1 c2 x) : D.own w' (.string x.term.name) (.str x.term.name) [] := D.own_str (by have q := h.2.1; rw [D.rd] at q; exact q.2)
def SzBnd (x : Bnd) : Prop := ∀ (S : Nat → Prop) (c0 c1 c2 : Value) (left : Int) (w : World), Bnd.at S w c0 c1 c2 x → 0 ≤ left → left ≤ 1048576 →
  Calls Try.prog 64 #[.agg #[c0, c1, c2], .int .i64 left] w fun e w' => e = .returned (.int .i64 (after (Bnd.bulk x) left)) ∧ Below w.heap.size w w'
def SzBndS (ts : List Bnd) : Prop := ∀ (S : Nat → Prop) (v : Value) (left : Int) (w : World), D.rd S w v (Bnd.sd ts) → 0 ≤ left → left ≤ 1048576 →
  Calls Try.prog 39 #[v, .int .i64 left] w fun e w' => e = .returned (.int .i64 (after (ts.length + Bnd.bulks ts) left)) ∧ Below w.heap.size w w'
def MadeBnd (x : Bnd) (w : World) (e : Ending) (w' : World) : Prop := ∃ v2 F2, e = .returned (.agg #[.string x.var, .string x.term.name, v2]) ∧ D.own w' v2 (Tm.sd x.term.args) F2 ∧ (∀ y ∈ F2, w.heap.size ≤ y) ∧ Below w.heap.size w w'
def ToBnd (x : Bnd) : Prop := ∀ (S : Nat → Prop) (c0 c1 c2 : Value) (w : World), Bnd.at S w c0 c1 c2 x → Bnd.bulk x ≤ 1048576 → Calls Try.prog 66 #[.agg #[c0, c1, c2]] w (MadeBnd x w)
def MadeBndS (ts : List Bnd) (w : World) (e : Ending) (w' : World) : Prop := ∃ v F, e = .returned v ∧ D.own w' v (Bnd.sd ts) F ∧ (∀ x ∈ F, w.heap.size ≤ x) ∧ Below w.heap.size w w'
def ToBndS (ts : List Bnd) : Prop := ∀ (S : Nat → Prop) (v : Value) (w : World), D.rd S w v (Bnd.sd ts) → ts.length + Bnd.bulks ts ≤ 1048576 → Calls Try.prog 43 #[v] w (MadeBndS ts w)
def EqBnd (t : Bnd) : Prop := ∀ (u : Bnd) (S : Nat → Prop) (c0 c1 c2 d0 d1 d2 : Value) (w : World), Bnd.at S w c0 c1 c2 t → Bnd.at S w d0 d1 d2 u → Calls Try.prog 70 #[.agg #[c0, c1, c2], .agg #[d0, d1, d2]] w fun e w' => e = .returned (.bool (Bnd.eqb t u)) ∧ Below w.heap.size w w'
def EqBndS (ts : List Bnd) : Prop := ∀ (us : List Bnd) (S : Nat → Prop) (v u : Value) (w : World), D.rd S w v (Bnd.sd ts) → D.rd S w u (Bnd.sd us) → Calls Try.prog 49 #[v, u] w fun e w' => e = .returned (.bool (Bnd.eqbs ts us)) ∧ Below w.heap.size w w'
set_option maxHeartbeats 400000 in
theorem szBndS_of (ts : List Bnd) (h : ∀ t ∈ ts, SzBnd t) : SzBndS ts := by
  intro S v left w hr h0 h1
  obtain ⟨a, cap, rfl, hlen, hcap⟩ := Bnd.sd_form hr
  unfold big at hlen
  by_cases hl : left < ts.length
  · have hx : left < (ts.length + Bnd.bulks ts : Nat) := by omega
    have HX := hid (after_neg hx); clear hx
    go_enter Try.func39, Try.ntmps39
    go_wp2_with fail
    go_ret
    exact ⟨ret_i64 HX.out.symm, Below.refl _ _⟩
  · go_enter Try.func39, Try.ntmps39
    go_wp2_with fail
    go_loopw [1, 5] (fun l i wr => ∃ (k : Nat) (x : Int), k ≤ ts.length ∧ i = .int .i64 k ∧ l = .int .i64 x ∧ 0 ≤ x ∧ x ≤ 1048576 ∧ Hid (x = left - (ts.length + Bnd.bulks (ts.take k) : Nat)) ∧ Below w.heap.size w wr) (fun _ i _ => ts.length - (intOf i).toNat)
    case atStart => exact ⟨0, _, Nat.zero_le _, rfl, rfl, by omega, by omega, by simp [Hid, Bnd.bulks], Below.refl _ _⟩
    case round =>
      obtain ⟨k, x, hk, rfl, rfl, hx0, hx1, HX, hb⟩ := hrel
      by_cases hlt : k < ts.length
      · have hne : ts ≠ [] := by intro e; subst e; simp at hlt
        obtain ⟨b, off, rfl, hS, hbl, hrr⟩ := Bnd.sd_get hr hne
        obtain ⟨c0, c1, c2, q0, q1, q2, qx⟩ := hrr k hlt
        have q0' := (hb.cell (p := ⟨b, off + k * 3, none⟩) hbl).trans q0
        have q1' := (hb.cell (p := ⟨b, off + k * 3 + 1, none⟩) hbl).trans q1
        have q2' := (hb.cell (p := ⟨b, off + k * 3 + 2, none⟩) hbl).trans q2
        have qx' := Bnd.at_keep (Keeps.all hb) qx
        have hmem := h ts[k] (List.getElem_mem hlt)
        have hstep := hid (Bnd.bulks_take ts k hlt)
        have hstle := hid (Bnd.bulks_le ts (k + 1))
        clear q0 q1 q2 qx hr hrr
        go_wp2_with fail
        refine (hmem S _ _ _ _ _ qx' hx0 hx1).mono ?_
        rintro e w' ⟨rfl, hb'⟩
        by_cases hl2 : x < Bnd.bulk ts[k]
        · have HZ : Hid (after (ts.length + Bnd.bulks ts) left = -1) := after_neg (by have := HX.out; have := hstep.out; have := hstle.out; omega)
          rw [after_neg hl2]
          go_wp2_with fail
          go_ret
          exact ⟨ret_i64 HZ.out.symm, hb.trans (hb'.mono hb.size)⟩
        · have hge : (Bnd.bulk ts[k] : Int) ≤ x := by omega
          have HZ : Hid (x - (Bnd.bulk ts[k] : Nat) = left - (ts.length + Bnd.bulks (ts.take (k + 1)) : Nat)) := by
            have := HX.out; have := hstep.out; show (_ : Int) = _; omega
          rw [after_pos hge]
          go_wp2_with fail
          go_roundw
          case rel => exact ⟨k + 1, _, by omega, by go_num, rfl, by omega, by omega, HZ, hb.trans (hb'.mono hb.size)⟩
          case measure => simp [intOf]; omega
      · obtain rfl : k = ts.length := by omega
        have HY : Hid (x = after (ts.length + Bnd.bulks ts) left) := by
          have h := HX.out
          rw [List.take_length] at h
          rw [after_pos (by omega)]; exact h
        go_wp2_with fail
        go_ret
        exact ⟨ret_i64 HY.out, hb⟩
theorem Bnd.sd_own_form {w : World} {v : Value} {ts : List Bnd} {F : List Nat} (h : D.own w v (Bnd.sd ts) F) : ∃ a cap, v = .slice a ts.length cap := by
  rw [Bnd.sd_css, D.own] at h
  obtain ⟨a, cap, e, _⟩ := h
  exact ⟨a, cap, e⟩
theorem infoBinding : (Try.prog.info? 68).map (fun i => (i.zero, i.size, i.bytes)) = some (some (.agg #[.string ByteArray.empty, .string ByteArray.empty, .slice none 0 0]), 3, 56) := by kernel_rfl
set_option maxHeartbeats 400000 in
theorem toBndS_of (ts : List Bnd) (h : ∀ t ∈ ts, ToBnd t) : ToBndS ts := by
  intro S v w hr hbk
  obtain ⟨a, cap, rfl, hlen, hcap⟩ := Bnd.sd_form hr
  have hmk := run_mk (P := Try.prog) Try.underlying45 infoBinding ts.length (by omega) hlen
  unfold big at hlen
  go_enter Try.func43, Try.ntmps43
  go_wp2_with fail
  go_loopw [4] (fun i wr => ∃ (k : Nat) (F : List Nat), k ≤ ts.length ∧ i = .int .i64 k ∧ Filled wr w.heap.size 68 (ts.length * 3) (Bnd.css (ts.take k)) F ∧ (∀ x ∈ F, w.heap.size < x) ∧ Below w.heap.size w wr) (fun i _ => ts.length - (intOf i).toNat)
  case atStart =>
    refine ⟨0, [], Nat.zero_le _, rfl, ?_, by simp, (Below.refl _ _).alloc (Nat.le_refl _) _⟩
    have := Filled.made w (madeCells #[Value.string ByteArray.empty, .string ByteArray.empty, .slice none 0 0] (ts.length * 3)) 68
    rw [size_madeCells] at this
    simpa [Bnd.css] using this
  case round =>
    obtain ⟨k, F, hk, rfl, hfl, hF, hb⟩ := hrel
    by_cases hlt : k < ts.length
    · have hne : ts ≠ [] := by intro e; subst e; simp at hlt
      obtain ⟨b, off, rfl, hS, hbl, hrr⟩ := Bnd.sd_get hr hne
      obtain ⟨c0, c1, c2, q0, q1, q2, qx⟩ := hrr k hlt
      have q0' := (hb.cell (p := ⟨b, off + k * 3, none⟩) hbl).trans q0
      have q1' := (hb.cell (p := ⟨b, off + k * 3 + 1, none⟩) hbl).trans q1
      have q2' := (hb.cell (p := ⟨b, off + k * 3 + 2, none⟩) hbl).trans q2
      replace qx := Bnd.at_keep (Keeps.all hb) qx
      have hmem := h ts[k] (List.getElem_mem hlt)
      have hbk' := Bnd.bulk_mem (List.getElem_mem hlt)
      clear q0 q1 q2 hr hrr
      go_wp2_with fail
      refine (hmem S _ _ _ _ qx (by omega)).mono ?_
      rintro e w1 ⟨v2, G2, rfl, ho2, hG2, hb1⟩
      obtain ⟨a2, ca2, rfl⟩ := Tm.sd_own_form ho2
      have hfl1 := hfl.keep (Keeps.all hb1)
      obtain ⟨x0, hx0⟩ := hfl1.cell (p := k * 3) (by omega)
      obtain ⟨x1, hx1⟩ := hfl1.cell (p := k * 3 + 1) (by omega)
      obtain ⟨x2, hx2⟩ := hfl1.cell (p := k * 3 + 2) (by omega)
      have hf0 := hfl1.free (k * 3)
      have hf1 := hfl1.free (k * 3 + 1)
      have hf2 := hfl1.free (k * 3 + 2)
      go_wp2_with fail
      go_roundw
      case rel =>
        have hB := hb.size
        have hBl := hfl.lt
        have hG2' : w.heap.size ∉ G2 := fun q => by have := hG2 _ q; omega
        refine ⟨k + 1, F ++ (G2), by omega, by go_num, ?_, fun x hx => ?_, (((hb.trans (hb1.mono hB)).setCell (Nat.le_refl _) _).setCell (Nat.le_refl _) _).setCell (Nat.le_refl _) _⟩
        · rw [Bnd.css_take_succ ts k hlt]
          have hl : (Bnd.css (ts.take k)).length = k * 3 := by rw [Bnd.css_length, List.length_take, Nat.min_eq_left hk]
          have hd2 : ∀ x ∈ F, x ∉ G2 := fun x hx hx' => by have := hG2 x hx'; have := hfl.ltF x hx; omega
          have s0 := hfl1.set (p := k * 3) (v := .string ts[k].var) (d := .str ts[k].var) (G := []) (by exact hl.symm) (by omega) (Bnd.own0 qx) (by simp) (by simp)
          have s1 := s0.set (p := k * 3 + 1) (v := .string ts[k].term.name) (d := .str ts[k].term.name) (G := []) (by simp [hl]) (by omega) (Bnd.own1 qx) (by simp) (by simp)
          have s2 := s1.set (p := k * 3 + 2) (v := .slice a2 ts[k].term.args.length ca2) (d := Tm.sd ts[k].term.args) (G := G2) (by simp [hl]) (by omega) (D.own_keep _ _ _ (((Keeps.refl _ _).setCell (fun q _ => hG2' q) _).setCell (fun q _ => hG2' q) _) ho2) hG2' (by simpa using hd2)
          simpa using s2
        · rcases List.mem_append.1 hx with hx | hx
          · exact hF x hx
          · have := hG2 x hx; omega
      case measure => simp [intOf]; omega
    · obtain rfl : k = ts.length := by omega
      go_wp2_with fail
      go_ret
      rw [List.take_length] at hfl
      by_cases hne : ts = []
      · subst hne
        refine ⟨_, [], rfl, ?_, by simp, hb⟩
        have := D.own_nil (w := wr) (some ⟨w.heap.size, 0, none⟩) 0
        rw [Bnd.sd_css]; simpa [Bnd.css] using this
      · exact ⟨_, _ :: F, rfl, by rw [Bnd.sd_css]; exact hfl.own (Bnd.css_ne hne) (by unfold big; omega) (Nat.le_refl _), fun x hx => by rcases List.mem_cons.1 hx with rfl | hx; exact Nat.le_refl _; exact Nat.le_of_lt (hF x hx), hb⟩
set_option maxHeartbeats 400000 in
theorem eqBndS_of (ts : List Bnd) (h : ∀ t ∈ ts, EqBnd t) : EqBndS ts := by
  intro us S v u w hr hr'
  obtain ⟨a, cap, rfl, hlen, hcap⟩ := Bnd.sd_form hr
  obtain ⟨a', cap', rfl, hlen', hcap'⟩ := Bnd.sd_form hr'
  unfold big at hlen hlen'
  by_cases hll : ts.length = us.length
  · go_enter Try.func49, Try.ntmps49
    go_wp2_with fail
    go_loopw [5] (fun i wr => ∃ (k : Nat), k ≤ ts.length ∧ i = .int .i64 k ∧ Hid (ts.take k = us.take k) ∧ Below w.heap.size w wr) (fun i _ => ts.length - (intOf i).toNat)
    case atStart => exact ⟨0, Nat.zero_le _, rfl, by simp [Hid], Below.refl _ _⟩
    case round =>
      obtain ⟨k, hk, rfl, HX, hb⟩ := hrel
      by_cases hlt : k < ts.length
      · have hne : ts ≠ [] := by intro e; subst e; simp at hlt
        have hlt' : k < us.length := by omega
        have hne' : us ≠ [] := by intro e; subst e; simp at hlt'
        obtain ⟨b, off, rfl, hS, hbl, hrr⟩ := Bnd.sd_get hr hne
        obtain ⟨b', off', rfl, hS', hbl', hrr'⟩ := Bnd.sd_get hr' hne'
        obtain ⟨c0, c1, c2, q0, q1, q2, qx⟩ := hrr k hlt
        obtain ⟨d0, d1, d2, r0, r1, r2, rx⟩ := hrr' k hlt'
        replace q0 := (hb.cell (p := ⟨b, off + k * 3, none⟩) hbl).trans q0
        replace q1 := (hb.cell (p := ⟨b, off + k * 3 + 1, none⟩) hbl).trans q1
        replace q2 := (hb.cell (p := ⟨b, off + k * 3 + 2, none⟩) hbl).trans q2
        replace r0 := (hb.cell (p := ⟨b', off' + k * 3, none⟩) hbl').trans r0
        replace r1 := (hb.cell (p := ⟨b', off' + k * 3 + 1, none⟩) hbl').trans r1
        replace r2 := (hb.cell (p := ⟨b', off' + k * 3 + 2, none⟩) hbl').trans r2
        replace qx := Bnd.at_keep (Keeps.all hb) qx
        replace rx := Bnd.at_keep (Keeps.all hb) rx
        have hmem := h ts[k] (List.getElem_mem hlt)
        clear hr hrr hr' hrr' 
        go_wp2_with fail
        have hb0 : b < wr.heap.size := Nat.lt_of_lt_of_le hbl hb.size
        have hb0' : b' < wr.heap.size := Nat.lt_of_lt_of_le hbl' hb.size
        refine wp_region_B [fun v _ => v = .slice (some ⟨b, off, none⟩) ts.length cap, fun v _ => v = .int .i64 k, fun v _ => v = .pointer (some ⟨b, off + k * 3, none⟩), fun v _ => v = .agg #[c0, c1, c2], fun v _ => v = .slice (some ⟨b', off', none⟩) us.length cap', fun v _ => v = .int .i64 k, fun v _ => v = .pointer (some ⟨b', off' + k * 3, none⟩), fun v _ => v = .agg #[d0, d1, d2], fun v _ => v = .bool (Bnd.eqb ts[k] us[k]), fun v _ => v = .bool (!Bnd.eqb ts[k] us[k])] _ (fun V => by simp [putAll, Act.put]; rfl) (by kernel_rfl) (by decide) (by simp) (by kernel_rfl) ?_ ?_ ?_
        · intro F hF
          simp only [List.mem_cons, List.not_mem_nil, or_false] at hF
          rcases hF with rfl | rfl | rfl | rfl | rfl | rfl | rfl | rfl | rfl | rfl
          · exact stable_eq
          · exact stable_eq
          · exact stable_eq
          · exact stable_eq
          · exact stable_eq
          · exact stable_eq
          · exact stable_eq
          · exact stable_eq
          · exact stable_eq
          · exact stable_eq
        · refine ⟨?_, ?_, ?_, ?_, ?_, ?_, ?_, ?_, ?_, ?_, trivial⟩
          · intro V w1 hbR _
            unfold Does
            go_simp
            exact ⟨Below.refl _ _, rfl⟩
          · intro V w1 hbR _
            unfold Does
            go_simp
            exact ⟨Below.refl _ _, rfl⟩
          · intro V w1 hbR ⟨f0, f1, _⟩
            replace f0 : V 0 = .slice (some ⟨b, off, none⟩) ts.length cap := f0
            replace f1 : V 1 = .int .i64 k := f1
            unfold Does
            go_simp
            exact ⟨Below.refl _ _, rfl⟩
          · intro V w1 hbR ⟨f2, _⟩
            replace f2 : V 2 = .pointer (some ⟨b, off + k * 3, none⟩) := f2
            obtain ⟨hc, hf⟩ := bcell hbR
            try simp only [World.size_alloc, World.size_setCell] at hc hf
            unfold Does
            go_simp
            exact ⟨Below.refl _ _, rfl⟩
          · intro V w1 hbR _
            unfold Does
            go_simp
            exact ⟨Below.refl _ _, rfl⟩
          · intro V w1 hbR _
            unfold Does
            go_simp
            exact ⟨Below.refl _ _, rfl⟩
          · intro V w1 hbR ⟨f4, f5, _⟩
            replace f4 : V 4 = .slice (some ⟨b', off', none⟩) us.length cap' := f4
            replace f5 : V 5 = .int .i64 k := f5
            unfold Does
            go_simp
            exact ⟨Below.refl _ _, rfl⟩
          · intro V w1 hbR ⟨f6, _⟩
            replace f6 : V 6 = .pointer (some ⟨b', off' + k * 3, none⟩) := f6
            obtain ⟨hc, hf⟩ := bcell hbR
            try simp only [World.size_alloc, World.size_setCell] at hc hf
            unfold Does
            go_simp
            exact ⟨Below.refl _ _, rfl⟩
          · intro V w1 hbR ⟨f3, f7, _⟩
            replace f3 : V 3 = .agg #[c0, c1, c2] := f3
            replace f7 : V 7 = .agg #[d0, d1, d2] := f7
            obtain ⟨hc, hf⟩ := bcell hbR
            try simp only [World.size_alloc, World.size_setCell] at hc hf
            unfold Does
            go_simp
            refine (hmem us[k] S _ _ _ _ _ _ _ (Bnd.at_keep (Keeps.all hbR) qx) (Bnd.at_keep (Keeps.all hbR) rx)).mono ?_; rintro e w2 ⟨rfl, hb2⟩; exact ⟨_, rfl, hb2, rfl⟩
          · intro V w1 hbR ⟨f8, _⟩
            replace f8 : V 8 = .bool (Bnd.eqb ts[k] us[k]) := f8
            unfold Does
            go_simp
            exact ⟨Below.refl _ _, rfl⟩
        intro V w1 hbR hfR
        obtain ⟨f0, f1, f2, f3, f4, f5, f6, f7, f8, f9, _⟩ := hfR
        replace f0 : V 0 = .slice (some ⟨b, off, none⟩) ts.length cap := f0
        replace f1 : V 1 = .int .i64 k := f1
        replace f2 : V 2 = .pointer (some ⟨b, off + k * 3, none⟩) := f2
        replace f3 : V 3 = .agg #[c0, c1, c2] := f3
        replace f4 : V 4 = .slice (some ⟨b', off', none⟩) us.length cap' := f4
        replace f5 : V 5 = .int .i64 k := f5
        replace f6 : V 6 = .pointer (some ⟨b', off' + k * 3, none⟩) := f6
        replace f7 : V 7 = .agg #[d0, d1, d2] := f7
        replace f8 : V 8 = .bool (Bnd.eqb ts[k] us[k]) := f8
        replace f9 : V 9 = .bool (!Bnd.eqb ts[k] us[k]) := f9
        simp only [f0, f1, f2, f3, f4, f5, f6, f7, f8, f9]
        clear f0 f1 f2 f3 f4 f5 f6 f7 f8 f9
        by_cases he : Bnd.eqb ts[k] us[k] = true
        · have HZ := hid (Bnd.eqbs_take hlt hlt' HX.out he)
          rw [he]
          go_wp2_with fail
          go_roundw
          case rel => exact ⟨k + 1, by omega, by go_num, HZ, hb.trans (hbR.mono hb.size)⟩
          case measure => simp [intOf]; omega
        · have he' : Bnd.eqb ts[k] us[k] = false := by simpa using he
          have HZ := hid (Bnd.eqbs_at hlt hlt' he')
          rw [he']
          clear he he'
          go_wp2_with fail
          go_ret
          exact ⟨ret_bool HZ.out.symm, hb.trans (hbR.mono hb.size)⟩
      · obtain rfl : k = ts.length := by omega
        have HY : Hid (Bnd.eqbs ts us = true) := by
          have := HX.out
          rw [List.take_length, hll, List.take_length] at this
          rw [Hid, Bnd.eqbs_iff]; exact this
        go_wp2_with fail
        go_ret
        exact ⟨ret_bool HY.out.symm, hb⟩
  · have HY := hid (Bnd.eqbs_length hll)
    go_enter Try.func49, Try.ntmps49
    go_wp2_with fail
    go_ret
    exact ⟨ret_bool HY.out.symm, Below.refl _ _⟩

theorem Bnd.at_term {S : Nat → Prop} {w : World} {c0 c1 c2 : Value} {x : Bnd} (h : Bnd.at S w c0 c1 c2 x) : Tm.at S w c1 c2 x.term := h.2
theorem Bnd.var_le {S : Nat → Prop} {w : World} {c0 c1 c2 : Value} {x : Bnd} (h : Bnd.at S w c0 c1 c2 x) : x.var.size ≤ maxLen := by have q := h.1; rw [D.rd] at q; exact q.2

set_option maxHeartbeats 400000 in
theorem szBnd_any (x : Bnd) : SzBnd x := by
  intro S c0 c1 c2 left w hr h0 h1
  have hvl := Bnd.var_le hr
  obtain ⟨rfl, rfl, a, cap, rfl⟩ := Bnd.at_form hr
  have hB : Below w.heap.size w (w.alloc (.cells #[.string x.var, .string x.term.name, .slice a x.term.args.length cap] 79)) := (Below.refl _ _).alloc (Nat.le_refl _) _
  replace hr := Tm.at_keep (Keeps.all hB) (Bnd.at_term hr)
  unfold maxLen at hvl
  rw [Bnd.bulk]
  by_cases hv : left < x.var.size
  · have HX := hid (after_neg (n := x.var.size + x.term.bulk) (left := left) (by omega))
    go_enter Try.func64, Try.ntmps64
    go_wp2_with fail
    go_ret
    exact ⟨ret_i64 HX.out.symm, hB⟩
  · go_enter Try.func64, Try.ntmps64
    go_wp2_with fail
    refine (szTerm_any x.term _ _ _ _ _ hr (by omega) (by omega)).mono ?_
    rintro e w' ⟨rfl, hb⟩
    by_cases hl : left - x.var.size < x.term.bulk
    · have HX := hid (after_neg (n := x.var.size + x.term.bulk) (left := left) (by omega))
      rw [after_neg hl]
      go_wp2_with fail
      go_ret
      exact ⟨ret_i64 HX.out.symm, hB.trans (hb.mono hB.size)⟩
    · have hge : (x.term.bulk : Int) ≤ left - x.var.size := by omega
      have HX : Hid (left - x.var.size - x.term.bulk = after (x.var.size + x.term.bulk) left) := by rw [Hid, after_pos (by omega)]; omega
      rw [after_pos hge]
      go_wp2_with fail
      go_ret
      exact ⟨ret_i64 HX.out, hB.trans (hb.mono hB.size)⟩

set_option maxHeartbeats 400000 in
theorem toBnd_any (x : Bnd) : ToBnd x := by
  intro S c0 c1 c2 w hr hbk
  obtain ⟨rfl, rfl, a, cap, rfl⟩ := Bnd.at_form hr
  rw [Bnd.bulk] at hbk
  replace hr := (Bnd.at_term hr)
  go_enter Try.func66, Try.ntmps66
  go_wp2_with fail
  refine (toTerm_any x.term S _ _ _ (Tm.at_keep ?hk hr) (by omega)).mono ?_
  case hk => exact (((Keeps.refl _ _).alloc _).alloc _).alloc _
  rintro e w1 ⟨v, F, rfl, ho, hF, hb⟩
  obtain ⟨a', cap', rfl⟩ := Tm.sd_own_form ho
  obtain ⟨hc, hf⟩ := bcell hb
  have hz := hb.size
  simp only [World.size_alloc] at hc hf hz hF
  go_wp2_with fail
  refine bodyPost_ret (v := .agg #[.string x.var, .string x.term.name, .slice a' x.term.args.length cap']) (by simp [results, Try.results66, go_sem, hc]) rfl ?_
  refine ⟨_, F, rfl, D.own_keep _ _ _ ?_ ho, fun x hx => by have := hF x hx; omega, ?_⟩
  · exact ((((((Keeps.refl _ _).set_lt hF (by simp) _).set_lt hF (by simp) _).set_lt hF (by simp) _).set_lt hF (by simp) _).set_lt hF (by simp) _)
  · exact (((((((((Below.refl _ _).alloc (Nat.le_refl _) _).alloc (by simp) _).alloc (by simp; omega) _).trans (hb.mono (by simp; omega))).setCell (by simp; omega) _).setCell (by simp; omega) _).setCell (by simp) _).setCell (by simp) _).setCell (by simp) _

set_option maxHeartbeats 400000 in
theorem eqBnd_any (x : Bnd) : EqBnd x := by
  intro u S c0 c1 c2 d0 d1 d2 w hr hr'
  obtain ⟨p, t⟩ := x
  obtain ⟨q, u⟩ := u
  obtain ⟨rfl, rfl, a, cap, rfl⟩ := Bnd.at_form hr
  obtain ⟨rfl, rfl, a', cap', rfl⟩ := Bnd.at_form hr'
  replace hr := Bnd.at_term hr
  replace hr' := Bnd.at_term hr'
  simp only at hr hr' ⊢
  by_cases hpq : p = q
  · subst hpq
    have HX : Hid (Bnd.eqb ⟨p, t⟩ ⟨p, u⟩ = Tm.eqb t u) := by simp [Hid, Bnd.eqb]
    go_enter Try.func70, Try.ntmps70
    go_wp2_with fail
    refine (eqTerm_any t u S _ _ _ _ _ (Tm.at_keep (((Keeps.refl _ _).alloc _).alloc _) hr) (Tm.at_keep (((Keeps.refl _ _).alloc _).alloc _) hr')).mono ?_
    rintro e w1 ⟨rfl, hb⟩
    have hb' : Below w.heap.size w w1 := (((Below.refl _ _).alloc (Nat.le_refl _) _).alloc (by simp) _).trans (hb.mono (by simp; omega))
    by_cases he : Tm.eqb t u = true
    all_goals
      first | rw [he] | rw [Bool.eq_false_iff.2 he]
      go_wp2_with fail
      go_ret
      exact ⟨ret_bool (by rw [HX.out]; simp [he]), hb'⟩
  · have HX : Hid (Bnd.eqb ⟨p, t⟩ ⟨q, u⟩ = false) := by simp [Hid, Bnd.eqb, hpq]
    have hne := toList_ne hpq
    go_enter Try.func70, Try.ntmps70
    go_wp2_with fail
    go_ret
    exact ⟨ret_bool HX.out.symm, ((Below.refl _ _).alloc (Nat.le_refl _) _).alloc (by simp) _⟩

theorem szBndS_any (ts : List Bnd) : SzBndS ts := szBndS_of ts fun t _ => szBnd_any t
theorem toBndS_any (ts : List Bnd) : ToBndS ts := toBndS_of ts fun t _ => toBnd_any t
theorem eqBndS_any (ts : List Bnd) : EqBndS ts := eqBndS_of ts fun t _ => eqBnd_any t

/-- a substitution -/
structure Sb where
  bs : List Bnd
def Sb.bulk (x : Sb) : Nat := x.bs.length + Bnd.bulks x.bs
def Sb.at (S : Nat → Prop) (w : World) (c0 : Value) (x : Sb) : Prop := D.rd S w c0 (Bnd.sd x.bs)
theorem Sb.at_keep {S : Nat → Prop} {w w' : World} {c0 : Value} {x : Sb} (hk : Keeps S w w') (h : Sb.at S w c0 x) : Sb.at S w' c0 x := D.rd_keep hk _ _ h
theorem Sb.at_mono {S S' : Nat → Prop} {w : World} {c0 : Value} {x : Sb} (hs : ∀ b, S b → S' b) (h : Sb.at S w c0 x) : Sb.at S' w c0 x := D.rd_mono hs _ _ h
theorem Sb.at_form {S : Nat → Prop} {w : World} {c0 : Value} {x : Sb} (h : Sb.at S w c0 x) : ∃ a cap, c0 = .slice a x.bs.length cap := by
  obtain ⟨a, cap, e, _⟩ := Bnd.sd_form h; exact ⟨a, cap, e⟩

set_option maxHeartbeats 400000 in
theorem szSb_any (x : Sb) : ∀ (S : Nat → Prop) (c0 : Value) (left : Int) (w : World), Sb.at S w c0 x → 0 ≤ left → left ≤ 1048576 →
    Calls Try.prog 15 #[.agg #[c0], .int .i64 left] w fun e w' => e = .returned (.int .i64 (after x.bulk left)) ∧ Below w.heap.size w w' := by
  intro S c0 left w hr h0 h1
  obtain ⟨a, cap, rfl⟩ := Sb.at_form hr
  have hB : Below w.heap.size w (w.alloc (.cells #[.slice a x.bs.length cap] 41)) := (Below.refl _ _).alloc (Nat.le_refl _) _
  replace hr := Sb.at_keep (Keeps.all hB) hr
  go_enter Try.func15, Try.ntmps15
  go_wp2_with fail
  refine (szBndS_any x.bs _ _ _ _ hr h0 h1).mono ?_
  rintro e w' ⟨rfl, hb⟩
  by_cases hl : left < (x.bs.length + Bnd.bulks x.bs : Nat)
  · have HX := hid (after_neg hl)
    rw [after_neg hl]
    go_wp2_with fail
    go_ret
    exact ⟨ret_i64 HX.out.symm, hB.trans (hb.mono hB.size)⟩
  · have hge : ((x.bs.length + Bnd.bulks x.bs : Nat) : Int) ≤ left := by omega
    have HX := hid (after_pos hge)
    rw [after_pos hge]
    go_wp2_with fail
    go_ret
    exact ⟨ret_i64 HX.out.symm, hB.trans (hb.mono hB.size)⟩

def MadeSb (x : Sb) (w : World) (e : Ending) (w' : World) : Prop := ∃ v F, e = .returned (.agg #[v]) ∧ D.own w' v (Bnd.sd x.bs) F ∧ (∀ y ∈ F, w.heap.size ≤ y) ∧ Below w.heap.size w w'
set_option maxHeartbeats 400000 in
theorem toSb_any (x : Sb) : ∀ (S : Nat → Prop) (c0 : Value) (w : World), Sb.at S w c0 x → x.bulk ≤ 1048576 → Calls Try.prog 18 #[.agg #[c0]] w (MadeSb x w) := by
  intro S c0 w hr hbk
  obtain ⟨a, cap, rfl⟩ := Sb.at_form hr
  rw [Sb.bulk] at hbk
  go_enter Try.func18, Try.ntmps18
  go_wp2_with fail
  refine (toBndS_any x.bs S _ _ (Sb.at_keep ?hk hr) hbk).mono ?_
  case hk => exact (((Keeps.refl _ _).alloc _).alloc _).alloc _
  rintro e w1 ⟨v, F, rfl, ho, hF, hb⟩
  obtain ⟨a', cap', rfl⟩ := Bnd.sd_own_form ho
  obtain ⟨hc, hf⟩ := bcell hb
  have hz := hb.size
  simp only [World.size_alloc] at hc hf hz hF
  go_wp2_with fail
  refine bodyPost_ret (v := .agg #[.slice a' x.bs.length cap']) (by simp [results, Try.results18, go_sem, hc]) rfl ?_
  refine ⟨_, F, rfl, D.own_keep _ _ _ ?_ ho, fun x hx => by have := hF x hx; omega, ?_⟩
  · exact ((Keeps.refl _ _).set_lt hF (by simp) _).set_lt hF (by simp) _
  · exact (((((Below.refl _ _).alloc (Nat.le_refl _) _).alloc (by simp) _).alloc (by simp; omega) _).trans (hb.mono (by simp; omega))).setCell (by simp; omega) _ |>.setCell (by simp) _

/-- the value is a substitution that reads as x -/
def IsS (x : Sb) (v : Value) (w : World) : Prop := ∃ v', v = .agg #[v'] ∧ Sb.at (fun _ => True) w v' x
theorem IsS.form {x : Sb} {v : Value} {w : World} (h : IsS x v w) : ∃ a cap, v = .agg #[.slice a x.bs.length cap] ∧ Sb.at (fun _ => True) w (.slice a x.bs.length cap) x := by
  obtain ⟨v', rfl, h⟩ := h
  obtain ⟨a, cap, rfl⟩ := Sb.at_form h
  exact ⟨a, cap, rfl, h⟩
theorem IsS.stable {x : Sb} {w : World} : ∀ v w1 w2, Below w.heap.size w w1 → Below w1.heap.size w1 w2 → IsS x v w1 → IsS x v w2 :=
  fun _ _ _ _ hb ⟨v', e, h⟩ => ⟨v', e, Sb.at_keep (Keeps.all hb) h⟩
theorem toSb_is {x : Sb} {S : Nat → Prop} {c0 : Value} {w : World} (h : Sb.at S w c0 x) (hb : x.bulk ≤ 1048576) :
    Calls Try.prog 18 #[.agg #[c0]] w (Yields w (IsS x)) :=
  (toSb_any x S c0 w h hb).mono fun _ _ ⟨v, _, he, ho, _, hbl⟩ => ⟨_, he, hbl, v, rfl, D.rd_mono (fun _ _ => trivial) _ _ (D.own_rd _ _ _ ho)⟩

set_option maxHeartbeats 400000 in
theorem eqSb_any (x u : Sb) : ∀ (S : Nat → Prop) (c0 d0 : Value) (w : World), Sb.at S w c0 x → Sb.at S w d0 u → Calls Try.prog 21 #[.agg #[c0], .agg #[d0]] w (Gives w (.bool (Bnd.eqbs x.bs u.bs))) := by
  intro S c0 d0 w hr hr'
  obtain ⟨a, cap, rfl⟩ := Sb.at_form hr
  obtain ⟨a', cap', rfl⟩ := Sb.at_form hr'
  go_enter Try.func21, Try.ntmps21
  go_wp2_with fail
  refine (eqBndS_any x.bs u.bs S _ _ _ (Sb.at_keep (((Keeps.refl _ _).alloc _).alloc _) hr) (Sb.at_keep (((Keeps.refl _ _).alloc _).alloc _) hr')).mono ?_
  rintro e w1 ⟨rfl, hb⟩
  have hb' : Below w.heap.size w w1 := (((Below.refl _ _).alloc (Nat.le_refl _) _).alloc (by simp) _).trans (hb.mono (by simp; omega))
  by_cases he : Bnd.eqbs x.bs u.bs = true
  all_goals
    first | rw [he] | rw [Bool.eq_false_iff.2 he]
    go_wp2_with fail
    go_ret
    exact Gives.mk (ret_bool (by simp [he])) hb'
theorem eqSb_refl {x : Sb} {S : Nat → Prop} {c0 d0 : Value} {w : World} (h : Sb.at S w c0 x) (k : Sb.at S w d0 x) : Calls Try.prog 21 #[.agg #[c0], .agg #[d0]] w (Gives w (.bool true)) := by
  have := eqSb_any x x S c0 d0 w h k
  rwa [(Bnd.eqbs_iff _ _).2 rfl] at this

theorem cellsLBinding : Try.prog.cellsOf 79 = 3 := by kernel_rfl
theorem cellsLBindingS : Try.prog.cellsOf 39 = 1 := by kernel_rfl
theorem cellsLSubst : Try.prog.cellsOf 41 = 1 := by kernel_rfl
theorem blen3 {α : Type} {l : List α} (h : l.length = 3) : ∃ a b c, l = [a, b, c] := by
  match l, h with
  | [a, b, c], _ => exact ⟨a, b, c, rfl⟩
theorem blen1 {α : Type} {l : List α} (h : l.length = 1) : ∃ a, l = [a] := by
  match l, h with
  | [a], _ => exact ⟨a, rfl⟩
section
variable {H : Type} {enc' : TypeId × Value → H} {w : World}
theorem read_bnd : ∀ (fuel : Nat) (cs : List Value) (x : DataW H × List MemPlace), DataW.trod enc' Try.prog w 0 (fun _ => true) true fuel 79 cs = some x → ∃ t : Bnd, CellsRd (fun _ => True) w cs t.cs := by
  intro fuel cs x h
  obtain ⟨xs, n, rfl, rfl, hl, hlen, hf⟩ := DataW.trod_struct Try.underlying79 h
  rw [cellsLBinding] at hl
  obtain ⟨c0, c1, c2, rfl⟩ := blen3 hl
  have h0 := hf 0 _ rfl
  have h1 := hf 1 _ rfl
  have g0 : ∃ x0, xs[0]? = some x0 := ⟨_, List.getElem?_eq_getElem (by rw [hlen]; decide)⟩
  have g1 : ∃ x1, xs[1]? = some x1 := ⟨_, List.getElem?_eq_getElem (by rw [hlen]; decide)⟩
  obtain ⟨x0, g0⟩ := g0
  obtain ⟨x1, g1⟩ := g1
  rw [g0] at h0
  rw [g1] at h1
  obtain ⟨s, hs, -, hsz⟩ := DataW.trod_string Try.underlying9 h0
  have hs' : c0 = .string s := by simpa [cellsStr] using hs
  obtain ⟨t, ht⟩ := read_term _ _ _ h1
  have ht' : CellsRd (fun _ => True) w [c1, c2] t.cs := by simpa [cellsStr, cellsLTerm] using ht
  subst hs'
  obtain ⟨m, ts⟩ := t
  refine ⟨⟨s, .node m ts⟩, ?_⟩
  rw [Tm.cs] at ht'
  exact ⟨D.rd_str hsz, ht'.1, ht'.2.1, trivial⟩
theorem read_sb : ∀ (fuel : Nat) (cs : List Value) (x : DataW H × List MemPlace), DataW.trod enc' Try.prog w 0 (fun _ => true) true fuel 41 cs = some x → ∃ (v : Value) (t : Sb), cs = [v] ∧ Sb.at (fun _ => True) w v t := by
  intro fuel cs x h
  obtain ⟨xs, n, rfl, rfl, hl, hlen, hf⟩ := DataW.trod_struct Try.underlying41 h
  rw [cellsLSubst] at hl
  obtain ⟨c0, rfl⟩ := blen1 hl
  have h0 := hf 0 _ rfl
  have g0 : ∃ x0, xs[0]? = some x0 := ⟨_, List.getElem?_eq_getElem (by rw [hlen]; decide)⟩
  obtain ⟨x0, g0⟩ := g0
  rw [g0] at h0
  obtain ⟨v, ts, hv, hr⟩ := open_slOf Bnd.wide (by decide) Try.underlying39 cellsLBinding (fun m cs' x' _ hx => read_bnd m cs' x' hx) h0
  have hv' : c0 = v := by simpa [cellsLBindingS] using hv
  subst hv'
  exact ⟨c0, ⟨ts⟩, rfl, hr⟩
theorem open_Subst {r : Reach} {b0 : Nat} {v : Value} {d : DataW H} {p : List MemPlace} (hv : Value.okWide Try.prog w r b0 41 v) (h : DataW.Trod enc' Try.prog w 0 (fun _ => true) true 41 v d p) :
    ∃ c0 t, v = .agg #[c0] ∧ Sb.at (fun _ => True) w c0 t := by
  obtain ⟨cs, rfl, hsz⟩ := okWide_struct Try.underlying41 hv
  obtain ⟨fuel, hf⟩ := h
  obtain ⟨v, t, ht, hr⟩ := read_sb fuel _ _ hf
  have e : cs = #[v] := by apply Array.toList_inj.1; exact ht
  subst e
  exact ⟨v, t, rfl, hr⟩
end
end Go.Proofs.Ytoblhgaohmfjeaa
