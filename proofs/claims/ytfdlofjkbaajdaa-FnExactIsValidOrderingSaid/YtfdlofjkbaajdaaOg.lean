/- Orderings: as data, and how a law measures, copies and compares them. -/
import Derived.Test.YtfdlofjkbaajdaaIl
import Derived.WalkSpells
import Derived.WalkLawsBesides
namespace Go.Proofs.Ytfdlofjkbaajdaa
set_option maxRecDepth 100000
open Go.RowKit Go.ChangeShapes Go.WideShapes

/-- symbols, their weights, the variables' weight -/
structure Og where
  syms : List ByteArray
  ws : List Int
  var : Int
def Og.at (S : Nat → Prop) (w : World) (c0 c1 c2 : Value) (x : Og) : Prop := D.rd S w c0 (slOf strE x.syms) ∧ D.rd S w c1 (slOf intE x.ws) ∧ c2 = .int .i64 x.var ∧ IsI64 x.var
def Og.bulk (x : Og) : Nat := strBulk x.syms + x.ws.length
theorem Og.at_form {S : Nat → Prop} {w : World} {c0 c1 c2 : Value} {x : Og} (h : Og.at S w c0 c1 c2 x) : (∃ a c, c0 = .slice a x.syms.length c) ∧ (∃ a c, c1 = .slice a x.ws.length c) ∧ c2 = .int .i64 x.var := by
  obtain ⟨h0, h1, h2, _⟩ := h
  obtain ⟨a, c, rfl, _, _⟩ := slOf_form h0
  obtain ⟨a', c', rfl, _, _⟩ := slOf_form h1
  exact ⟨⟨a, c, rfl⟩, ⟨a', c', rfl⟩, h2⟩
theorem Og.at_keep {S : Nat → Prop} {w w' : World} (hk : Keeps S w w') {c0 c1 c2 : Value} {x : Og} (h : Og.at S w c0 c1 c2 x) : Og.at S w' c0 c1 c2 x :=
  ⟨D.rd_keep hk _ _ h.1, D.rd_keep hk _ _ h.2.1, h.2.2⟩

set_option maxHeartbeats 400000 in
theorem szOg_any (x : Og) : ∀ (S : Nat → Prop) (c0 c1 c2 : Value) (left : Int) (w : World), Og.at S w c0 c1 c2 x → 0 ≤ left → left ≤ 1048576 → Calls Try.prog 13 #[.agg #[c0, c1, c2], .int .i64 left] w fun e w' => e = .returned (.int .i64 (after x.bulk left)) ∧ Below w.heap.size w w' := by
  intro S c0 c1 c2 left w hr h0 h1
  obtain ⟨⟨a, c, rfl⟩, ⟨a', c', rfl⟩, rfl⟩ := Og.at_form hr
  have hB : Below w.heap.size w (w.alloc (.cells #[.slice a x.syms.length c, .slice a' x.ws.length c', .int .i64 x.var] 34)) := (Below.refl _ _).alloc (Nat.le_refl _) _
  have bT : Box (w.alloc (.cells #[.slice a x.syms.length c, .slice a' x.ws.length c', .int .i64 x.var] 34)) w.heap.size [.slice a x.syms.length c, .slice a' x.ws.length c', .int .i64 x.var] := Box.new w _ _
  replace hr := Og.at_keep (Keeps.all hB) hr
  have HBK : Hid (x.bulk = strBulk x.syms + x.ws.length) := rfl
  go_enter Try.func13, Try.ntmps13
  go_wp2_with fail
  refine (szStrS_any x.syms hr.1 h0 h1).mono ?_
  rintro e w1 ⟨rfl, hb⟩
  have hW := hB.trans (hb.mono hB.size)
  replace bT := bT.keep hb
  replace hr := Og.at_keep (Keeps.all hb) hr
  have eT1 := bT.c1
  clear hb
  by_cases hl : left < strBulk x.syms
  · have HX := hid (after_neg (n := x.bulk) (left := left) (by rw [HBK.out]; omega))
    rw [after_neg hl]
    go_wp2_with fail
    go_ret
    exact ⟨ret_i64 HX.out.symm, hW⟩
  · have hge : (strBulk x.syms : Int) ≤ left := by omega
    rw [after_pos hge]
    obtain ⟨l2, H2⟩ : ∃ l2 : Int, Hid (left - (strBulk x.syms : Nat) = l2) := ⟨_, hid rfl⟩
    have hl0 : 0 ≤ l2 := by have := H2.out; omega
    have hl1 : l2 ≤ 1048576 := by have := H2.out; omega
    rw [H2.out]
    go_wp2_with fail
    refine (szIntS_any x.ws hr.2.1 hl0 hl1).mono ?_
    rintro e w2 ⟨rfl, hb⟩
    have hW2 := hW.trans (hb.mono hW.size)
    by_cases hl3 : l2 < x.ws.length
    · have HX := hid (after_neg (n := x.bulk) (left := left) (by have := H2.out; rw [HBK.out]; omega))
      rw [after_neg hl3]
      go_wp2_with fail
      go_ret
      exact ⟨ret_i64 HX.out.symm, hW2⟩
    · have HX := hid (after_pos (n := x.bulk) (left := left) (by have := H2.out; rw [HBK.out]; omega))
      have HY : Hid (l2 - (x.ws.length : Nat) = after x.bulk left) := by rw [Hid, HX.out, HBK.out, ← H2.out]; omega
      have hl3' : 0 ≤ l2 - (x.ws.length : Nat) := by omega
      rw [after_pos (by omega)]
      go_wp2_with fail
      go_ret
      exact ⟨ret_i64 HY.out, hW2⟩

/-- the value is an ordering that reads as x -/
def IsO (x : Og) (v : Value) (w : World) : Prop := ∃ c0 c1, v = .agg #[c0, c1, .int .i64 x.var] ∧ Og.at (fun _ => True) w c0 c1 (.int .i64 x.var) x
theorem IsO.form {x : Og} {v : Value} {w : World} (h : IsO x v w) : ∃ a c a' c', v = .agg #[.slice a x.syms.length c, .slice a' x.ws.length c', .int .i64 x.var] ∧ Og.at (fun _ => True) w (.slice a x.syms.length c) (.slice a' x.ws.length c') (.int .i64 x.var) x := by
  obtain ⟨c0, c1, rfl, h⟩ := h
  obtain ⟨⟨a, c, rfl⟩, ⟨a', c', rfl⟩, _⟩ := Og.at_form h
  exact ⟨a, c, a', c', rfl, h⟩
theorem IsO.stable {x : Og} {w : World} : ∀ v w1 w2, Below w.heap.size w w1 → Below w1.heap.size w1 w2 → IsO x v w1 → IsO x v w2 :=
  fun _ _ _ _ hb ⟨c0, c1, e, h⟩ => ⟨c0, c1, e, Og.at_keep (Keeps.all hb) h⟩

set_option maxHeartbeats 1000000 in
theorem toOg_is {x : Og} {S : Nat → Prop} {c0 c1 c2 : Value} {w : World} (hr : Og.at S w c0 c1 c2 x) (hbk : x.bulk ≤ 1048576) :
    Calls Try.prog 15 #[.agg #[c0, c1, c2]] w (Yields w (IsO x)) := by
  obtain ⟨⟨a, c, rfl⟩, ⟨a', c', rfl⟩, rfl⟩ := Og.at_form hr
  rw [Og.bulk] at hbk
  go_enter Try.func15, Try.ntmps15
  go_wp2_with fail
  refine (toStrS_any x.syms (S := S) (D.rd_keep ?hk _ _ hr.1) (by omega)).mono ?_
  case hk => exact (((Keeps.refl _ _).alloc _).alloc _).alloc _
  rintro e w1 ⟨v, F, rfl, ho, hF, hb⟩
  obtain ⟨hc, hf⟩ := bcell hb
  obtain ⟨a1, cap1, rfl, -, -⟩ := slOf_form (D.own_rd _ _ _ ho)
  have hz := hb.size
  have hk1 := ((((Keeps.refl S w).alloc _).alloc _).alloc _).trans (Keeps.all hb)
  simp only [World.size_alloc] at hc hf hz hF
  go_wp2_with fail
  refine (toIntS_any x.ws (S := S) (D.rd_keep ?hk2 _ _ hr.2.1) (by omega)).mono ?_
  case hk2 => exact hk1.setCell (fun _ q => by simp only at q; omega) _
  rintro e w2 ⟨v2, F2, rfl, ho2, hF2, hb2⟩
  obtain ⟨a2, cap2, rfl, -, -⟩ := slOf_form (D.own_rd _ _ _ ho2)
  obtain ⟨hc2, hf2⟩ := bcell hb2
  have hz2 := hb2.size
  simp only [World.size_setCell] at hc2 hf2 hz2 hF2
  have g2 : w.heap.size + 1 + 1 < w1.heap.size := by omega
  have g1 : w.heap.size + 1 < w1.heap.size := by omega
  have g0 : w.heap.size < w1.heap.size := by omega
  go_wp2_with fail
  refine bodyPost_ret (v := .agg #[.slice a1 x.syms.length cap1, .slice a2 x.ws.length cap2, .int .i64 x.var]) (by simp [results, Try.results15, go_sem, hc2, hc, g1]) rfl ?_
  have hW1 : Below w.heap.size w w1 := (((Below.refl _ _).alloc (Nat.le_refl _) _).alloc (by simp) _).alloc (by simp; omega) _ |>.trans (hb.mono (by simp; omega))
  have hW2 := hW1.setCell (p := ⟨w.heap.size + 1 + 1, 0, none⟩) (by simp only; omega) (.slice a1 x.syms.length cap1)
  have hW3 := hW2.trans (hb2.mono (by simp only [World.size_setCell]; omega))
  refine ⟨_, rfl, ?bel, _, _, rfl, D.rd_mono (fun _ _ => trivial) _ _ (D.rd_keep ?o1 _ _ (D.own_rd _ _ _ ho)), D.rd_mono (fun _ _ => trivial) _ _ (D.rd_keep ?o2 _ _ (D.own_rd _ _ _ ho2)), rfl, hr.2.2.2⟩
  case o1 => exact ((((((Keeps.refl _ _).set_lt hF (by simp) _).trans (Keeps.all hb2)).set_lt hF (by simp) _).set_lt hF (by simp) _).set_lt hF (by simp) _).set_lt hF (by simp) _ |>.set_lt hF (by simp) _
  case o2 => exact ((((Keeps.refl _ _).set_lt hF2 g2 _).set_lt hF2 g2 _).set_lt hF2 g1 _).set_lt hF2 g1 _ |>.set_lt hF2 g1 _
  case bel => exact ((((hW3.setCell (by simp only; omega) _).setCell (by simp only; omega) _).setCell (by simp only; omega) _).setCell (by simp only; omega) _).setCell (by simp only; omega) _

set_option maxHeartbeats 400000 in
theorem eqOg_refl {x : Og} {S : Nat → Prop} {c0 c1 c2 d0 d1 d2 : Value} {w : World} (h : Og.at S w c0 c1 c2 x) (k : Og.at S w d0 d1 d2 x) : Calls Try.prog 17 #[.agg #[c0, c1, c2], .agg #[d0, d1, d2]] w (Gives w (.bool true)) := by
  obtain ⟨⟨a, c, rfl⟩, ⟨a', c', rfl⟩, rfl⟩ := Og.at_form h
  obtain ⟨⟨b, d, rfl⟩, ⟨b', d', rfl⟩, rfl⟩ := Og.at_form k
  have hk : Keeps S w ((w.alloc (.cells #[.slice a x.syms.length c, .slice a' x.ws.length c', .int .i64 x.var] 37)).alloc (.cells #[.slice b x.syms.length d, .slice b' x.ws.length d', .int .i64 x.var] 37)) := ((Keeps.refl _ _).alloc _).alloc _
  have hB : Below w.heap.size w ((w.alloc (.cells #[.slice a x.syms.length c, .slice a' x.ws.length c', .int .i64 x.var] 37)).alloc (.cells #[.slice b x.syms.length d, .slice b' x.ws.length d', .int .i64 x.var] 37)) := ((Below.refl _ _).alloc (Nat.le_refl _) _).alloc (by simp) _
  replace h := Og.at_keep hk h
  replace k := Og.at_keep hk k
  have b1 : Box _ w.heap.size _ := (Box.new w [.slice a x.syms.length c, .slice a' x.ws.length c', .int .i64 x.var] 37).alloc (.cells #[.slice b x.syms.length d, .slice b' x.ws.length d', .int .i64 x.var] 37)
  have b2 := Box.new (w.alloc (.cells #[.slice a x.syms.length c, .slice a' x.ws.length c', .int .i64 x.var] 37)) [.slice b x.syms.length d, .slice b' x.ws.length d', .int .i64 x.var] 37
  simp only [World.size_alloc] at b2
  replace b2 : Box ((w.alloc (.cells #[.slice a x.syms.length c, .slice a' x.ws.length c', .int .i64 x.var] 37)).alloc (.cells #[.slice b x.syms.length d, .slice b' x.ws.length d', .int .i64 x.var] 37)) (w.heap.size + 1) [.slice b x.syms.length d, .slice b' x.ws.length d', .int .i64 x.var] := b2
  go_enter Try.func17, Try.ntmps17
  go_wp2_with fail
  refine (eqStrS_refl h.1 k.1).mono ?_
  rintro e w1 ⟨_, rfl, hb, rfl⟩
  have hW := hB.trans (hb.mono hB.size)
  replace b1 := b1.keep hb
  replace b2 := b2.keep hb
  replace h := Og.at_keep (Keeps.all hb) h
  replace k := Og.at_keep (Keeps.all hb) k
  have e1 := b1.c1
  have e2 := b2.c1
  clear hb
  go_wp2_with fail
  refine (eqIntS_refl h.2.1 k.2.1).mono ?_
  rintro e w2 ⟨_, rfl, hb, rfl⟩
  replace hW := hW.trans (hb.mono hW.size)
  replace b1 := b1.keep hb
  replace b2 := b2.keep hb
  have e3 := b1.c2
  have e4 := b2.c2
  clear hb
  go_wp2_with fail
  go_ret
  exact Gives.mk (ret_bool rfl) hW

theorem cellsStrS1 : Try.prog.cellsOf 25 = 1 := by kernel_rfl
theorem cellsIntS1 : Try.prog.cellsOf 32 = 1 := by kernel_rfl
theorem cellsLOrdering : Try.prog.cellsOf 34 = 3 := by kernel_rfl
theorem olen3 {α : Type} {l : List α} (h : l.length = 3) : ∃ a b c, l = [a, b, c] := by
  match l, h with
  | [a, b, c], _ => exact ⟨a, b, c, rfl⟩
section
variable {H : Type} {enc' : TypeId × Value → H} {w : World}
theorem open_Ordering {r : Reach} {b0 : Nat} {v : Value} {d : DataW H} {p : List MemPlace} (hv : Value.okWide Try.prog w r b0 34 v) (h : DataW.Trod enc' Try.prog w 0 (fun _ => true) true 34 v d p) :
    ∃ c0 c1 c2 t, v = .agg #[c0, c1, c2] ∧ Og.at (fun _ => True) w c0 c1 c2 t := by
  obtain ⟨cs, rfl, hsz⟩ := okWide_struct Try.underlying34 hv
  obtain ⟨fuel, hf⟩ := h
  obtain ⟨xs, n, rfl, -, hl, hlen, hfs⟩ := DataW.trod_struct Try.underlying34 hf
  rw [cellsLOrdering] at hl
  obtain ⟨c0, c1, c2, hcs⟩ := olen3 hl
  have h0 := hfs 0 _ rfl
  have h1 := hfs 1 _ rfl
  have h2 := hfs 2 _ rfl
  obtain ⟨x0, g0⟩ : ∃ x0, xs[0]? = some x0 := ⟨_, List.getElem?_eq_getElem (by rw [hlen]; decide)⟩
  obtain ⟨x1, g1⟩ : ∃ x1, xs[1]? = some x1 := ⟨_, List.getElem?_eq_getElem (by rw [hlen]; decide)⟩
  obtain ⟨x2, g2⟩ : ∃ x2, xs[2]? = some x2 := ⟨_, List.getElem?_eq_getElem (by rw [hlen]; decide)⟩
  rw [g0] at h0
  rw [g1] at h1
  rw [g2] at h2
  obtain ⟨v0, ss, e0, r0⟩ := open_slOf strE_wide (by decide) Try.underlying25 cellsStr1 (fun m cs' x' _ hx => read_str m cs' x' hx) h0
  obtain ⟨v1, zs, e1, r1⟩ := open_slOf intE_wide (by decide) Try.underlying32 cellsInt1 (fun m cs' x' _ hx => read_int m cs' x' hx) h1
  obtain ⟨z, e2, -, hw⟩ := DataW.trod_int Try.underlying3 h2
  rw [hcs] at e0 e1 e2
  obtain rfl : c0 = v0 := by simpa [cellsStrS1] using e0
  obtain rfl : c1 = v1 := by simpa [cellsStrS1, cellsIntS1] using e1
  obtain rfl : c2 = .int .i64 z := by simpa [cellsStrS1, cellsIntS1, cellsInt1] using e2
  have e : cs = #[c0, c1, .int .i64 z] := by apply Array.toList_inj.1; exact hcs
  subst e
  exact ⟨c0, c1, _, ⟨ss, zs, z⟩, rfl, r0, r1, rfl, bounds_i64 hw⟩
end
end Go.Proofs.Ytfdlofjkbaajdaa
