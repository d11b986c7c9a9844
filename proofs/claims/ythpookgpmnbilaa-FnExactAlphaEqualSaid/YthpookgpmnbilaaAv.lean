/- Formulas that differ in bound names only: the reference's walk. -/
import Derived.Test.YthpookgpmnbilaaAu
import Derived.Test.YthpookgpmnbilaaFg
import Derived.Test.YthpookgpmnbilaaCe
import Derived.Deep.Cut
namespace Go.Proofs.Ythpookgpmnbilaa
set_option maxRecDepth 100000
open Go.RowKit

theorem Tm.atom_nicer {t : Tm} (h : t.atom = true) : t.nice = true := by
  refine Tm.expr_nice ?_
  rw [Tm.expr_eq, Bool.or_eq_true, Bool.and_eq_true]
  by_cases he : t.isEq = true
  · exact .inr ⟨he, h⟩
  · left
    rw [Tm.atom_eq, if_neg (by simpa [Tm.isEq] using he), Bool.and_eq_true] at h
    exact h.2
theorem Fm.atom_fine {x : Fm} (h : x.forms = true) (ho : x.op = 3) : x.atom.atom = true := by
  rw [Fm.forms_eq, Bool.and_eq_true, Fm.form, Bool.and_eq_true, Bool.and_eq_true, if_pos ho] at h
  exact h.1.1.2
theorem Fm.size_mem {ts : List Fm} {t : Fm} (h : t ∈ ts) : t.size ≤ Fm.sizes ts := by
  induction ts with
  | nil => cases h
  | cons a ts ih =>
    rw [Fm.sizes]
    rcases List.mem_cons.1 h with rfl | h
    · omega
    · have := ih h; omega
theorem Fm.part_fine {x : Fm} (h : x.forms = true) : ∀ p ∈ x.parts, p.forms = true := by
  rw [Fm.forms_eq, Bool.and_eq_true] at h
  exact (Fm.formsAll_iff _).1 h.2

def AlphaS (t : Fm) : Prop := ∀ (u : Fm) (x y : List ByteArray) (S : Nat → Prop) (c0 c1 c2 c3 c4 d0 d1 d2 d3 d4 vx vy : Value) (w : World), Fm.at S w c0 c1 c2 c3 c4 t → Fm.at S w d0 d1 d2 d3 d4 u → Lst w vx x → Lst w vy y → t.forms = true → u.forms = true → t.bulk ≤ 1048576 → u.bulk ≤ 1048576 → x.length + t.size ≤ 1073741824 → y.length + t.size ≤ 1073741824 →
  Calls Try.prog 27 #[.agg #[c0, c1, c2, c3, c4], .agg #[d0, d1, d2, d3, d4], vx, vy] w (Gives w (.bool (Fm.alpha t u x y)))
set_option maxHeartbeats 4000000 in
theorem l8Alpha_of (t : Fm) (ih : ∀ p ∈ t.parts, AlphaS p) : AlphaS t := by
  intro u x y S c0 c1 c2 c3 c4 d0 d1 d2 d3 d4 vx vy w hT hU hx hy hft hfu hbt hbu hxs hys
  have HC := hid (Fm.alpha_eq t u x y)
  have hvt := Fm.v_le hT
  have hvu := Fm.v_le hU
  obtain ⟨xb, xo, xcp, rfl, hxbl, hxc, hxm, hxr⟩ := hx
  obtain ⟨yb, yo, ycp, rfl, hybl, hyc, hym, hyr⟩ := hy
  have HLX : Hid (Lst w (.slice (some ⟨xb, xo, none⟩) x.length xcp) x) := ⟨xb, xo, xcp, rfl, hxbl, hxc, hxm, hxr⟩
  have HLY : Hid (Lst w (.slice (some ⟨yb, yo, none⟩) y.length ycp) y) := ⟨yb, yo, ycp, rfl, hybl, hyc, hym, hyr⟩
  have hts := Fm.size_eq t
  have hlp : t.parts.length ≤ 1048576 := by have := Fm.bulk_eq t; omega
  have HXR0 := hid hxr
  have HYR0 := hid hyr
  have HYx : Hid (∀ s ∈ x, s.size ≤ maxLen) := fun s hs => by obtain ⟨j, hj, rfl⟩ := List.mem_iff_getElem.1 hs; exact (hxr j hj).2
  have HYy : Hid (∀ s ∈ y, s.size ≤ maxLen) := fun s hs => by obtain ⟨j, hj, rfl⟩ := List.mem_iff_getElem.1 hs; exact (hyr j hj).2
  clear hxr hyr
  unfold maxLen at hxm hym
  by_cases ho : t.op = u.op
  · have o1 : (t.op == u.op) = true := by simp [ho]
    have o2 : (t.op != u.op) = false := by simp [ho]
    by_cases h3 : t.op = 3
    · have HD : Hid (Fm.alpha t u x y = Tm.alpha x y t.atom u.atom) := by rw [Hid, HC.out, if_pos ho, if_pos h3]
      have t1 : (t.op == 3) = true := by simp [h3]
      have ha1 := Fm.atom_fine hft h3
      have ha2 := Fm.atom_fine hfu (ho ▸ h3)
      have HF := hid (And.intro (And.intro (Tm.atom_leafy ha1) (Tm.atom_leafy ha2)) (And.intro (Tm.atom_nicer ha1) (Tm.atom_nicer ha2)))
      clear ho h3 ha1 ha2
      obtain ⟨rfl, rfl, ⟨a, cap, rfl⟩, rfl, a2, cap2, rfl⟩ := Fm.at_form hT
      obtain ⟨rfl, rfl, ⟨a', cap', rfl⟩, rfl, a2', cap2', rfl⟩ := Fm.at_form hU
      have hW : Below w.heap.size w ((w.alloc (.cells #[.int .i64 t.op, .string t.atom.name, .slice a t.atom.args.length cap, .string t.v, .slice a2 t.parts.length cap2] 36)).alloc (.cells #[.int .i64 u.op, .string u.atom.name, .slice a' u.atom.args.length cap', .string u.v, .slice a2' u.parts.length cap2'] 36)) := ((Below.refl _ _).alloc (Nat.le_refl _) _).alloc (by simp) _
      have bT : Box ((w.alloc (.cells #[.int .i64 t.op, .string t.atom.name, .slice a t.atom.args.length cap, .string t.v, .slice a2 t.parts.length cap2] 36)).alloc (.cells #[.int .i64 u.op, .string u.atom.name, .slice a' u.atom.args.length cap', .string u.v, .slice a2' u.parts.length cap2'] 36)) w.heap.size [.int .i64 t.op, .string t.atom.name, .slice a t.atom.args.length cap, .string t.v, .slice a2 t.parts.length cap2] := (Box.new w _ _).alloc _
      have bU : Box ((w.alloc (.cells #[.int .i64 t.op, .string t.atom.name, .slice a t.atom.args.length cap, .string t.v, .slice a2 t.parts.length cap2] 36)).alloc (.cells #[.int .i64 u.op, .string u.atom.name, .slice a' u.atom.args.length cap', .string u.v, .slice a2' u.parts.length cap2'] 36)) (w.heap.size + 1) [.int .i64 u.op, .string u.atom.name, .slice a' u.atom.args.length cap', .string u.v, .slice a2' u.parts.length cap2'] := by
        have := Box.new (w.alloc (.cells #[.int .i64 t.op, .string t.atom.name, .slice a t.atom.args.length cap, .string t.v, .slice a2 t.parts.length cap2] 36)) [.int .i64 u.op, .string u.atom.name, .slice a' u.atom.args.length cap', .string u.v, .slice a2' u.parts.length cap2'] 36
        simpa only [World.size_alloc] using this
      replace hT := Fm.at_keep (Keeps.all hW) hT
      replace hU := Fm.at_keep (Keeps.all hW) hU
      go_enter Try.func27, Try.ntmps27
      go_wp2_with fail
      generalize ((w.alloc (.cells #[.int .i64 t.op, .string t.atom.name, .slice a t.atom.args.length cap, .string t.v, .slice a2 t.parts.length cap2] 36)).alloc (.cells #[.int .i64 u.op, .string u.atom.name, .slice a' u.atom.args.length cap', .string u.v, .slice a2' u.parts.length cap2'] 36)) = w0 at *
      refine (l8Terms_any t.atom u.atom x y S _ _ _ _ _ _ _ (Fm.at_atom hT) (Fm.at_atom hU) (HLX.out.keep hW).rd (HLY.out.keep hW).rd HF.out.1.1 HF.out.1.2 HF.out.2.1 HF.out.2.2).mono ?_
      rintro e w1 ⟨_, rfl, hb, rfl⟩
      go_wp2_with fail
      go_ret
      exact Gives.mk (ret_bool HD.out.symm) (hW.trans (hb.mono hW.size))
    · have t1 : (t.op == 3) = false := by simp [h3]
      have HL : Hid (t.parts.length = u.parts.length) := Fm.parts_same hft hfu ho
      have HFT := hid (Fm.part_fine hft)
      have HFU := hid (Fm.part_fine hfu)
      by_cases hq : quantOp t.op = true
      · have HD : Hid (Fm.alpha t u x y = Fm.alphas t.parts u.parts (x ++ [t.v]) (y ++ [u.v])) := by rw [Hid, HC.out, if_pos ho, if_neg h3, if_pos hq]
        have hqq : (t.op == 8) = true ∨ ((t.op == 8) = false ∧ (t.op == 9) = true) := by
          have h89 : t.op = 8 ∨ t.op = 9 := by simpa [quantOp] using hq
          rcases h89 with h | h <;> simp [h]
        clear ho h3 hq
        rcases hqq with q8 | ⟨q8, q9⟩
        all_goals
          obtain ⟨rfl, rfl, ⟨a, cap, rfl⟩, rfl, a2, cap2, rfl⟩ := Fm.at_form hT
          obtain ⟨rfl, rfl, ⟨a', cap', rfl⟩, rfl, a2', cap2', rfl⟩ := Fm.at_form hU
          have hW : Below w.heap.size w ((w.alloc (.cells #[.int .i64 t.op, .string t.atom.name, .slice a t.atom.args.length cap, .string t.v, .slice a2 t.parts.length cap2] 36)).alloc (.cells #[.int .i64 u.op, .string u.atom.name, .slice a' u.atom.args.length cap', .string u.v, .slice a2' u.parts.length cap2'] 36)) := ((Below.refl _ _).alloc (Nat.le_refl _) _).alloc (by simp) _
          have bT : Box ((w.alloc (.cells #[.int .i64 t.op, .string t.atom.name, .slice a t.atom.args.length cap, .string t.v, .slice a2 t.parts.length cap2] 36)).alloc (.cells #[.int .i64 u.op, .string u.atom.name, .slice a' u.atom.args.length cap', .string u.v, .slice a2' u.parts.length cap2'] 36)) w.heap.size [.int .i64 t.op, .string t.atom.name, .slice a t.atom.args.length cap, .string t.v, .slice a2 t.parts.length cap2] := (Box.new w _ _).alloc _
          have bU : Box ((w.alloc (.cells #[.int .i64 t.op, .string t.atom.name, .slice a t.atom.args.length cap, .string t.v, .slice a2 t.parts.length cap2] 36)).alloc (.cells #[.int .i64 u.op, .string u.atom.name, .slice a' u.atom.args.length cap', .string u.v, .slice a2' u.parts.length cap2'] 36)) (w.heap.size + 1) [.int .i64 u.op, .string u.atom.name, .slice a' u.atom.args.length cap', .string u.v, .slice a2' u.parts.length cap2'] := by
            have := Box.new (w.alloc (.cells #[.int .i64 t.op, .string t.atom.name, .slice a t.atom.args.length cap, .string t.v, .slice a2 t.parts.length cap2] 36)) [.int .i64 u.op, .string u.atom.name, .slice a' u.atom.args.length cap', .string u.v, .slice a2' u.parts.length cap2'] 36
            simpa only [World.size_alloc] using this
          replace hT := Fm.at_keep (Keeps.all hW) hT
          replace hU := Fm.at_keep (Keeps.all hW) hU
          go_enter Try.func27, Try.ntmps27
          go_wp2_with fail
          generalize ((w.alloc (.cells #[.int .i64 t.op, .string t.atom.name, .slice a t.atom.args.length cap, .string t.v, .slice a2 t.parts.length cap2] 36)).alloc (.cells #[.int .i64 u.op, .string u.atom.name, .slice a' u.atom.args.length cap', .string u.v, .slice a2' u.parts.length cap2'] 36)) = w0 at *
          have HY0 := hid (HLY.out.keep hW)
          have HXC : Hid (∀ j (h : j < x.length), w0.cell? ⟨xb, xo + j, none⟩ = some (.string x[j]) ∧ x[j].size ≤ maxLen) := fun j h => ⟨(hW.cell (p := ⟨xb, xo + j, none⟩) hxbl).trans (HXR0.out j h).1, (HXR0.out j h).2⟩
          have h1x : xb < w0.heap.size := Nat.lt_of_lt_of_le hxbl hW.size
          have hvx := hvt
          have eT0 := bT.c0
          have eT1 := bT.c1
          have eT2 := bT.c2
          have eT3 := bT.c3
          have eT4 := bT.c4
          have eU0 := bU.c0
          have eU1 := bU.c1
          have eU2 := bU.c2
          have eU3 := bU.c3
          have eU4 := bU.c4
          have lT := bT.lt
          have lU := bU.lt
          go_cut [2] from 33 (fun v2 wc => ∃ (g cp : Nat), v2 = .slice (some ⟨g, 0, none⟩) (x.length + 1) cp ∧ Hid (Lst wc (.slice (some ⟨g, 0, none⟩) (x.length + 1) cp) (x ++ [t.v])) ∧ Below w0.heap.size w0 wc)
          case first =>
            go_region_held3 (fun w' => w'.cell? ⟨w.heap.size, 3, none⟩ = some (.string t.v))
              (first | assumption | exact eT3 | exact cell_alloc (by assumption) _ | exact cell_alloc (cell_alloc eT3 _) _)
              (first | (refine step_apps (B := w0.heap.size) (W := w0) (ss := []) (ys := x) rfl (.tmp 33) (.tmp 34) rfl (by first | exact ((Below.refl w0.heap.size w0).alloc (Nat.le_refl _) _).drew | exact (((Below.refl w0.heap.size w0).alloc (Nat.le_refl _) _).alloc (by simp) _).drew) (by first | (simp; done) | (simp; omega)) (by rfl) (by rfl) (by first | exact (Row.made' (by simp) (by simp)).drew | exact ((Row.made' (by simp) (by simp)).keep ((Below.refl _ _).alloc (Nat.le_refl _) _)).drew) rfl (fun _ => h1x) (by intro j hj; exact (HXC.out j hj).1) HYx.out (by simp only [List.length_nil]; omega) ?_; intro v45 w45 hr45 hB45 hz45 hn45 hg45; have hS45 : w45.cell? ⟨w.heap.size, 3, none⟩ = some (.string t.v) := (hB45.cell lT).trans eT3) | (refine step_app (B := w0.heap.size) (W := w0) (ss := x) (y := t.v) rfl (.tmp 35) (.tmp 38) rfl (by first | exact hB45 | exact hB45.alloc hz45 _) (by first | exact hz45 | (simp; omega)) (by rfl) (by rfl) (by first | exact hr45 | exact hr45.keep ((Below.refl _ _).alloc (Nat.le_refl _) _)) hvx (by first | exact box1 _ _ _ 0 | exact hg45.cell (v := .string t.v) (box2 _ _ _ _ _ 0).2 (fun (e : some _ = some _) => absurd (Option.some.inj e) (by first | omega | (simp; done) | (simp; omega))) | exact hg45.cell (v := .string t.v) (box2 _ _ _ _ _ 0).1 (fun (e : some _ = some _) => absurd (Option.some.inj e) (by first | omega | (simp; done) | (simp; omega)))) (by omega) ?_; intro g49 cap49 w49 hr49 hB49 hz49 hlt49 hg49; have hS49 : w49.cell? ⟨w.heap.size, 3, none⟩ = some (.string t.v) := (hB49.cell lT).trans eT3))
            all_goals
              have HLST : Hid (Lst w49 (.slice (some ⟨g49, 0, none⟩) (x.length + 1) cap49) (x ++ [t.v])) := by
                have hx : Row w49 w0.heap.size (.slice (some ⟨g49, 0, none⟩) (x.length + 1) cap49) (x ++ [t.v]) := by simpa using hr49
                have := Row.lst hx (by intro e; cases e)
                exact hid (by simpa using this)
              have HBB := hid hB49
              clear hr49 hB49 hg49 hr45 hB45 hg45
              go_wp2_with fail
              go_meet
              case rel => exact ⟨g49, cap49, rfl, HLST, HBB.out⟩
          obtain ⟨gx, cx, rfl, HX1, hb⟩ := hcut
          clear eT0 eT1 eT2 eT3 eT4 eU0 eU1 eU2 eU3 eU4 lT lU
          replace HY0 := hid (HY0.out.keep hb)
          replace hW := hW.trans (hb.mono hW.size)
          replace bT := bT.keep hb
          replace bU := bU.keep hb
          replace hT := Fm.at_keep (Keeps.all hb) hT
          replace hU := Fm.at_keep (Keeps.all hb) hU
          clear hb
          have HYC : Hid (∀ j (h : j < y.length), wc.cell? ⟨yb, yo + j, none⟩ = some (.string y[j]) ∧ y[j].size ≤ maxLen) := fun j h => ⟨(hW.cell (p := ⟨yb, yo + j, none⟩) hybl).trans (HYR0.out j h).1, (HYR0.out j h).2⟩
          have h1y : yb < wc.heap.size := Nat.lt_of_lt_of_le hybl hW.size
          have hvy := hvu
          obtain ⟨w5, rfl⟩ : ∃ z, z = wc := ⟨_, rfl⟩
          have eT0 := bT.c0
          have eT1 := bT.c1
          have eT2 := bT.c2
          have eT3 := bT.c3
          have eT4 := bT.c4
          have eU0 := bU.c0
          have eU1 := bU.c1
          have eU2 := bU.c2
          have eU3 := bU.c3
          have eU4 := bU.c4
          have lT := bT.lt
          have lU := bU.lt
          go_wp2_with fail
          go_cut [3] from 33 (fun v2 wc => ∃ (g cp : Nat), v2 = .slice (some ⟨g, 0, none⟩) (y.length + 1) cp ∧ Hid (Lst wc (.slice (some ⟨g, 0, none⟩) (y.length + 1) cp) (y ++ [u.v])) ∧ Below w5.heap.size w5 wc)
          case first =>
            go_region_held3 (fun w' => w'.cell? ⟨w.heap.size + 1, 3, none⟩ = some (.string u.v))
              (first | assumption | exact eU3 | exact cell_alloc (by assumption) _ | exact cell_alloc (cell_alloc eU3 _) _)
              (first | (refine step_apps (B := w5.heap.size) (W := w5) (ss := []) (ys := y) rfl (.tmp 40) (.tmp 41) rfl (by first | exact ((Below.refl w5.heap.size w5).alloc (Nat.le_refl _) _).drew | exact (((Below.refl w5.heap.size w5).alloc (Nat.le_refl _) _).alloc (by simp) _).drew) (by first | (simp; done) | (simp; omega)) (by rfl) (by rfl) (by first | exact (Row.made' (by simp) (by simp)).drew | exact ((Row.made' (by simp) (by simp)).keep ((Below.refl _ _).alloc (Nat.le_refl _) _)).drew) rfl (fun _ => h1y) (by intro j hj; exact (HYC.out j hj).1) HYy.out (by simp only [List.length_nil]; omega) ?_; intro v45 w45 hr45 hB45 hz45 hn45 hg45; have hS45 : w45.cell? ⟨w.heap.size + 1, 3, none⟩ = some (.string u.v) := (hB45.cell lU).trans eU3) | (refine step_app (B := w5.heap.size) (W := w5) (ss := y) (y := u.v) rfl (.tmp 42) (.tmp 45) rfl (by first | exact hB45 | exact hB45.alloc hz45 _) (by first | exact hz45 | (simp; omega)) (by rfl) (by rfl) (by first | exact hr45 | exact hr45.keep ((Below.refl _ _).alloc (Nat.le_refl _) _)) hvy (by first | exact box1 _ _ _ 0 | exact hg45.cell (v := .string u.v) (box2 _ _ _ _ _ 0).2 (fun (e : some _ = some _) => absurd (Option.some.inj e) (by first | omega | (simp; done) | (simp; omega))) | exact hg45.cell (v := .string u.v) (box2 _ _ _ _ _ 0).1 (fun (e : some _ = some _) => absurd (Option.some.inj e) (by first | omega | (simp; done) | (simp; omega)))) (by omega) ?_; intro g49 cap49 w49 hr49 hB49 hz49 hlt49 hg49; have hS49 : w49.cell? ⟨w.heap.size + 1, 3, none⟩ = some (.string u.v) := (hB49.cell lU).trans eU3))
            all_goals
              have HLST : Hid (Lst w49 (.slice (some ⟨g49, 0, none⟩) (y.length + 1) cap49) (y ++ [u.v])) := by
                have hx : Row w49 w5.heap.size (.slice (some ⟨g49, 0, none⟩) (y.length + 1) cap49) (y ++ [u.v]) := by simpa using hr49
                have := Row.lst hx (by intro e; cases e)
                exact hid (by simpa using this)
              have HBB := hid hB49
              clear hr49 hB49 hg49 hr45 hB45 hg45
              go_wp2_with fail
              go_meet
              case rel => exact ⟨g49, cap49, rfl, HLST, HBB.out⟩
          obtain ⟨gy, cy, rfl, HY1, hb⟩ := hcut
          clear eT0 eT1 eT2 eT3 eT4 eU0 eU1 eU2 eU3 eU4 lT lU
          have HX0 := hid (HX1.out.keep hb)
          replace hW := hW.trans (hb.mono hW.size)
          replace bT := bT.keep hb
          replace bU := bU.keep hb
          replace hT := Fm.at_keep (Keeps.all hb) hT
          replace hU := Fm.at_keep (Keeps.all hb) hU
          clear hb
          have HY0 := HY1
          obtain ⟨w6, rfl⟩ : ∃ z, z = wc := ⟨_, rfl⟩
          have eT0 := bT.c0
          have eT1 := bT.c1
          have eT2 := bT.c2
          have eT3 := bT.c3
          have eT4 := bT.c4
          have eU0 := bU.c0
          have eU1 := bU.c1
          have eU2 := bU.c2
          have eU3 := bU.c3
          have eU4 := bU.c4
          have lT := bT.lt
          have lU := bU.lt
          go_wp2_with fail
          clear eT0 eT1 eT2 eT3 eT4 eU0 eU1 eU2 eU3 eU4 lT lU
          go_loopw [9] (fun i wr => ∃ (k : Nat), k ≤ t.parts.length ∧ i = .int .i64 k ∧ Hid (∀ j (h : j < t.parts.length) (h' : j < u.parts.length), j < k → Fm.alpha t.parts[j] u.parts[j] ((x ++ [t.v])) ((y ++ [u.v])) = true) ∧ Below w6.heap.size w6 wr) (fun i _ => t.parts.length - (intOf i).toNat)
          case atStart => exact ⟨0, Nat.zero_le _, rfl, fun j h h' h0 => absurd h0 (by omega), Below.refl _ _⟩
          case round =>
            obtain ⟨k, hk, rfl, HK, hb⟩ := hrel
            have hb0 := hb
            replace HX0 := hid (HX0.out.keep hb)
            replace HY0 := hid (HY0.out.keep hb)
            replace hW := hW.trans (hb.mono hW.size)
            replace bT := bT.keep hb
            replace bU := bU.keep hb
            replace hT := Fm.at_keep (Keeps.all hb) hT
            replace hU := Fm.at_keep (Keeps.all hb) hU
            clear hb
            have eT0 := bT.c0
            have eT1 := bT.c1
            have eT2 := bT.c2
            have eT3 := bT.c3
            have eT4 := bT.c4
            have eU0 := bU.c0
            have eU1 := bU.c1
            have eU2 := bU.c2
            have eU3 := bU.c3
            have eU4 := bU.c4
            have lT := bT.lt
            have lU := bU.lt
            by_cases hlt : k < t.parts.length
            · have hne : t.parts ≠ [] := by intro e; rw [e] at hlt; simp at hlt
              have hlt' : k < u.parts.length := by rw [← HL.out]; exact hlt
              have hne' : u.parts ≠ [] := by intro e; rw [e] at hlt'; simp at hlt'
              obtain ⟨b, off, rfl, hS, hbl, hrr⟩ := Fm.sd_get (Fm.at_parts hT) hne
              obtain ⟨b', off', rfl, hS', hbl', hrr'⟩ := Fm.sd_get (Fm.at_parts hU) hne'
              obtain ⟨c0, c1, c2, c3, c4, q0, q1, q2, q3, q4, qx⟩ := hrr k hlt
              obtain ⟨d0, d1, d2, d3, d4, r0, r1, r2, r3, r4, rx⟩ := hrr' k hlt'
              obtain ⟨rfl, rfl, ⟨z2, n2, rfl⟩, rfl, z4, n4, rfl⟩ := Fm.at_form qx
              obtain ⟨rfl, rfl, ⟨y2, m2, rfl⟩, rfl, y4, m4, rfl⟩ := Fm.at_form rx
              have hbk1 : t.parts[k].bulk ≤ 1048576 := by have := Fm.bulk_mem (List.getElem_mem hlt); have := Fm.bulk_eq t; omega
              have hbk2 : u.parts[k].bulk ≤ 1048576 := by have := Fm.bulk_mem (List.getElem_mem hlt'); have := Fm.bulk_eq u; omega
              have hs1 : t.parts[k].size ≤ Fm.sizes t.parts := Fm.size_mem (List.getElem_mem hlt)
              have HM := hid (ih t.parts[k] (List.getElem_mem hlt) u.parts[k] ((x ++ [t.v])) ((y ++ [u.v])) S)
              have HSZ : Hid (((x ++ [t.v])).length + t.parts[k].size ≤ 1073741824 ∧ ((y ++ [u.v])).length + t.parts[k].size ≤ 1073741824) := hid (by refine ⟨?_, ?_⟩ <;> (try simp only [List.length_append, List.length_cons, List.length_nil]) <;> omega)
              have HBK := hid (And.intro hbk1 hbk2)
              clear hrr hrr' hbk1 hbk2 hs1
              have e1 : b < wr.heap.size := hbl
              have e2 : b' < wr.heap.size := hbl'
              go_wp2_with fail
              refine wp_region_B [fun v _ => v = .pointer (some ⟨w.heap.size, 4, none⟩), fun v _ => v = .slice (some ⟨b, off, none⟩) t.parts.length cap2, fun v _ => v = .int .i64 k, fun v _ => v = .pointer (some ⟨b, off + k * 5, none⟩), fun v _ => v = .agg #[.int .i64 t.parts[k].op, .string t.parts[k].atom.name, .slice z2 t.parts[k].atom.args.length n2, .string t.parts[k].v, .slice z4 t.parts[k].parts.length n4], fun v _ => v = .pointer (some ⟨(w.heap.size + 1), 4, none⟩), fun v _ => v = .slice (some ⟨b', off', none⟩) u.parts.length cap2', fun v _ => v = .int .i64 k, fun v _ => v = .pointer (some ⟨b', off' + k * 5, none⟩), fun v _ => v = .agg #[.int .i64 u.parts[k].op, .string u.parts[k].atom.name, .slice y2 u.parts[k].atom.args.length m2, .string u.parts[k].v, .slice y4 u.parts[k].parts.length m4], fun v _ => v = .slice (some ⟨gx, 0, none⟩) (x.length + 1) cx, fun v _ => v = .slice (some ⟨gy, 0, none⟩) (y.length + 1) cy, fun v _ => v = .bool (Fm.alpha t.parts[k] u.parts[k] ((x ++ [t.v])) ((y ++ [u.v]))), fun v _ => v = .bool (!(Fm.alpha t.parts[k] u.parts[k] ((x ++ [t.v])) ((y ++ [u.v]))))] _ (fun V => by simp [putAll, Act.put]; rfl) (by kernel_rfl) (by decide) (by simp) (by kernel_rfl) ?_ ?_ ?_
              · intro F hF
                simp only [List.mem_cons, List.not_mem_nil, or_false] at hF
                rcases hF with rfl | rfl | rfl | rfl | rfl | rfl | rfl | rfl | rfl | rfl | rfl | rfl | rfl | rfl
                · exact stable_eq
                · exact stable_eq
                · exact stable_eq
                · exact stable_eq
                · exact stable_eq
                · exact stable_eq
                · exact stable_eq
                · exact stable_eq
                · exact stable_eq
                · exact stable_eq
                · exact stable_eq
                · exact stable_eq
                · exact stable_eq
                · exact stable_eq
              · refine ⟨?_, ?_, ?_, ?_, ?_, ?_, ?_, ?_, ?_, ?_, ?_, ?_, ?_, ?_, trivial⟩
                · intro V w1 hbR _
                  unfold Does
                  go_simp
                  exact ⟨Below.refl _ _, rfl⟩
                · intro V w1 hbR ⟨f0, _⟩
                  replace f0 : V 0 = .pointer (some ⟨w.heap.size, 4, none⟩) := f0
                  obtain ⟨hc, hf⟩ := bcell hbR
                  try simp only [World.size_alloc, World.size_setCell] at hc hf
                  unfold Does
                  go_simp
                  exact ⟨Below.refl _ _, rfl⟩
                · intro V w1 hbR _
                  unfold Does
                  go_simp
                  exact ⟨Below.refl _ _, rfl⟩
                · intro V w1 hbR ⟨f1, f2, _⟩
                  replace f1 : V 1 = .slice (some ⟨b, off, none⟩) t.parts.length cap2 := f1
                  replace f2 : V 2 = .int .i64 k := f2
                  unfold Does
                  go_simp
                  exact ⟨Below.refl _ _, rfl⟩
                · intro V w1 hbR ⟨f3, _⟩
                  replace f3 : V 3 = .pointer (some ⟨b, off + k * 5, none⟩) := f3
                  obtain ⟨hc, hf⟩ := bcell hbR
                  try simp only [World.size_alloc, World.size_setCell] at hc hf
                  unfold Does
                  go_simp
                  exact ⟨Below.refl _ _, rfl⟩
                · intro V w1 hbR _
                  unfold Does
                  go_simp
                  exact ⟨Below.refl _ _, rfl⟩
                · intro V w1 hbR ⟨f5, _⟩
                  replace f5 : V 5 = .pointer (some ⟨(w.heap.size + 1), 4, none⟩) := f5
                  obtain ⟨hc, hf⟩ := bcell hbR
                  try simp only [World.size_alloc, World.size_setCell] at hc hf
                  unfold Does
                  go_simp
                  exact ⟨Below.refl _ _, rfl⟩
                · intro V w1 hbR _
                  unfold Does
                  go_simp
                  exact ⟨Below.refl _ _, rfl⟩
                · intro V w1 hbR ⟨f6, f7, _⟩
                  replace f6 : V 6 = .slice (some ⟨b', off', none⟩) u.parts.length cap2' := f6
                  replace f7 : V 7 = .int .i64 k := f7
                  unfold Does
                  go_simp
                  exact ⟨Below.refl _ _, rfl⟩
                · intro V w1 hbR ⟨f8, _⟩
                  replace f8 : V 8 = .pointer (some ⟨b', off' + k * 5, none⟩) := f8
                  obtain ⟨hc, hf⟩ := bcell hbR
                  try simp only [World.size_alloc, World.size_setCell] at hc hf
                  unfold Does
                  go_simp
                  exact ⟨Below.refl _ _, rfl⟩
                · intro V w1 hbR _
                  unfold Does
                  go_simp
                  exact ⟨Below.refl _ _, rfl⟩
                · intro V w1 hbR _
                  unfold Does
                  go_simp
                  exact ⟨Below.refl _ _, rfl⟩
                · intro V w1 hbR ⟨f4, f9, f10, f11, _⟩
                  replace f4 : V 4 = .agg #[.int .i64 t.parts[k].op, .string t.parts[k].atom.name, .slice z2 t.parts[k].atom.args.length n2, .string t.parts[k].v, .slice z4 t.parts[k].parts.length n4] := f4
                  replace f9 : V 9 = .agg #[.int .i64 u.parts[k].op, .string u.parts[k].atom.name, .slice y2 u.parts[k].atom.args.length m2, .string u.parts[k].v, .slice y4 u.parts[k].parts.length m4] := f9
                  replace f10 : V 10 = .slice (some ⟨gx, 0, none⟩) (x.length + 1) cx := f10
                  replace f11 : V 11 = .slice (some ⟨gy, 0, none⟩) (y.length + 1) cy := f11
                  obtain ⟨hc, hf⟩ := bcell hbR
                  try simp only [World.size_alloc, World.size_setCell] at hc hf
                  unfold Does
                  go_simp
                  exact HM.out _ _ _ _ _ _ _ _ _ _ _ _ _ (Fm.at_keep (Keeps.all hbR) qx) (Fm.at_keep (Keeps.all hbR) rx) (HX0.out.keep hbR) (HY0.out.keep hbR) (HFT.out _ (List.getElem_mem hlt)) (HFU.out _ (List.getElem_mem hlt')) HBK.out.1 HBK.out.2 HSZ.out.1 HSZ.out.2
                · intro V w1 hbR ⟨f12, _⟩
                  replace f12 : V 12 = .bool (Fm.alpha t.parts[k] u.parts[k] ((x ++ [t.v])) ((y ++ [u.v]))) := f12
                  unfold Does
                  go_simp
                  exact ⟨Below.refl _ _, rfl⟩
              intro V w2 hbR hfR
              obtain ⟨f0, f1, f2, f3, f4, f5, f6, f7, f8, f9, f10, f11, f12, f13, _⟩ := hfR
              replace f0 : V 0 = .pointer (some ⟨w.heap.size, 4, none⟩) := f0
              replace f1 : V 1 = .slice (some ⟨b, off, none⟩) t.parts.length cap2 := f1
              replace f2 : V 2 = .int .i64 k := f2
              replace f3 : V 3 = .pointer (some ⟨b, off + k * 5, none⟩) := f3
              replace f4 : V 4 = .agg #[.int .i64 t.parts[k].op, .string t.parts[k].atom.name, .slice z2 t.parts[k].atom.args.length n2, .string t.parts[k].v, .slice z4 t.parts[k].parts.length n4] := f4
              replace f5 : V 5 = .pointer (some ⟨(w.heap.size + 1), 4, none⟩) := f5
              replace f6 : V 6 = .slice (some ⟨b', off', none⟩) u.parts.length cap2' := f6
              replace f7 : V 7 = .int .i64 k := f7
              replace f8 : V 8 = .pointer (some ⟨b', off' + k * 5, none⟩) := f8
              replace f9 : V 9 = .agg #[.int .i64 u.parts[k].op, .string u.parts[k].atom.name, .slice y2 u.parts[k].atom.args.length m2, .string u.parts[k].v, .slice y4 u.parts[k].parts.length m4] := f9
              replace f10 : V 10 = .slice (some ⟨gx, 0, none⟩) (x.length + 1) cx := f10
              replace f11 : V 11 = .slice (some ⟨gy, 0, none⟩) (y.length + 1) cy := f11
              replace f12 : V 12 = .bool (Fm.alpha t.parts[k] u.parts[k] ((x ++ [t.v])) ((y ++ [u.v]))) := f12
              replace f13 : V 13 = .bool (!(Fm.alpha t.parts[k] u.parts[k] ((x ++ [t.v])) ((y ++ [u.v])))) := f13
              simp only [f0, f1, f2, f3, f4, f5, f6, f7, f8, f9, f10, f11, f12, f13]
              clear f0 f1 f2 f3 f4 f5 f6 f7 f8 f9 f10 f11 f12 f13
              by_cases he : Fm.alpha t.parts[k] u.parts[k] ((x ++ [t.v])) ((y ++ [u.v])) = true
              · have HZ : Hid (∀ j (h : j < t.parts.length) (h' : j < u.parts.length), j < k + 1 → Fm.alpha t.parts[j] u.parts[j] ((x ++ [t.v])) ((y ++ [u.v])) = true) := fun j h h' h0 => by
                  by_cases hjk : j < k
                  · exact HK.out j h h' hjk
                  · obtain rfl : j = k := by omega
                    exact he
                rw [he]
                clear he
                go_wp2_with fail
                go_roundw
                case rel => exact ⟨k + 1, by omega, by go_num, HZ, hb0.trans (hbR.mono hb0.size)⟩
                case measure => simp [intOf]; omega
              · replace he : Fm.alpha t.parts[k] u.parts[k] ((x ++ [t.v])) ((y ++ [u.v])) = false := by simpa using he
                have HZ : Hid (Fm.alpha t u x y = false) := by rw [Hid, HD.out]; exact Fm.alphas_at hlt hlt' he
                rw [he]
                clear he
                go_wp2_with fail
                go_ret
                exact Gives.mk (ret_bool HZ.out.symm) (hW.trans (hbR.mono hW.size))
            · obtain rfl : k = t.parts.length := by omega
              have HZ : Hid (Fm.alpha t u x y = true) := by rw [Hid, HD.out, Fm.alphas_iff]; exact ⟨HL.out, fun j h h' => HK.out j h h' h⟩
              go_wp2_with fail
              go_ret
              exact Gives.mk (ret_bool HZ.out.symm) hW
      · have HD : Hid (Fm.alpha t u x y = Fm.alphas t.parts u.parts x y) := by rw [Hid, HC.out, if_pos ho, if_neg h3, if_neg hq]
        have q8 : (t.op == 8) = false := by rw [beq_eq_false_iff_ne]; intro e; simp [quantOp, e] at hq
        have q9 : (t.op == 9) = false := by rw [beq_eq_false_iff_ne]; intro e; simp [quantOp, e] at hq
        clear ho h3 hq
        obtain ⟨rfl, rfl, ⟨a, cap, rfl⟩, rfl, a2, cap2, rfl⟩ := Fm.at_form hT
        obtain ⟨rfl, rfl, ⟨a', cap', rfl⟩, rfl, a2', cap2', rfl⟩ := Fm.at_form hU
        have hW : Below w.heap.size w ((w.alloc (.cells #[.int .i64 t.op, .string t.atom.name, .slice a t.atom.args.length cap, .string t.v, .slice a2 t.parts.length cap2] 36)).alloc (.cells #[.int .i64 u.op, .string u.atom.name, .slice a' u.atom.args.length cap', .string u.v, .slice a2' u.parts.length cap2'] 36)) := ((Below.refl _ _).alloc (Nat.le_refl _) _).alloc (by simp) _
        have bT : Box ((w.alloc (.cells #[.int .i64 t.op, .string t.atom.name, .slice a t.atom.args.length cap, .string t.v, .slice a2 t.parts.length cap2] 36)).alloc (.cells #[.int .i64 u.op, .string u.atom.name, .slice a' u.atom.args.length cap', .string u.v, .slice a2' u.parts.length cap2'] 36)) w.heap.size [.int .i64 t.op, .string t.atom.name, .slice a t.atom.args.length cap, .string t.v, .slice a2 t.parts.length cap2] := (Box.new w _ _).alloc _
        have bU : Box ((w.alloc (.cells #[.int .i64 t.op, .string t.atom.name, .slice a t.atom.args.length cap, .string t.v, .slice a2 t.parts.length cap2] 36)).alloc (.cells #[.int .i64 u.op, .string u.atom.name, .slice a' u.atom.args.length cap', .string u.v, .slice a2' u.parts.length cap2'] 36)) (w.heap.size + 1) [.int .i64 u.op, .string u.atom.name, .slice a' u.atom.args.length cap', .string u.v, .slice a2' u.parts.length cap2'] := by
          have := Box.new (w.alloc (.cells #[.int .i64 t.op, .string t.atom.name, .slice a t.atom.args.length cap, .string t.v, .slice a2 t.parts.length cap2] 36)) [.int .i64 u.op, .string u.atom.name, .slice a' u.atom.args.length cap', .string u.v, .slice a2' u.parts.length cap2'] 36
          simpa only [World.size_alloc] using this
        replace hT := Fm.at_keep (Keeps.all hW) hT
        replace hU := Fm.at_keep (Keeps.all hW) hU
        go_enter Try.func27, Try.ntmps27
        go_wp2_with fail
        generalize ((w.alloc (.cells #[.int .i64 t.op, .string t.atom.name, .slice a t.atom.args.length cap, .string t.v, .slice a2 t.parts.length cap2] 36)).alloc (.cells #[.int .i64 u.op, .string u.atom.name, .slice a' u.atom.args.length cap', .string u.v, .slice a2' u.parts.length cap2'] 36)) = w0 at *
        have HX0 := hid (HLX.out.keep hW)
        have HY0 := hid (HLY.out.keep hW)
        go_loopw [9] (fun i wr => ∃ (k : Nat), k ≤ t.parts.length ∧ i = .int .i64 k ∧ Hid (∀ j (h : j < t.parts.length) (h' : j < u.parts.length), j < k → Fm.alpha t.parts[j] u.parts[j] (x) (y) = true) ∧ Below w0.heap.size w0 wr) (fun i _ => t.parts.length - (intOf i).toNat)
        case atStart => exact ⟨0, Nat.zero_le _, rfl, fun j h h' h0 => absurd h0 (by omega), Below.refl _ _⟩
        case round =>
          obtain ⟨k, hk, rfl, HK, hb⟩ := hrel
          have hb0 := hb
          replace HX0 := hid (HX0.out.keep hb)
          replace HY0 := hid (HY0.out.keep hb)
          replace hW := hW.trans (hb.mono hW.size)
          replace bT := bT.keep hb
          replace bU := bU.keep hb
          replace hT := Fm.at_keep (Keeps.all hb) hT
          replace hU := Fm.at_keep (Keeps.all hb) hU
          clear hb
          have eT0 := bT.c0
          have eT1 := bT.c1
          have eT2 := bT.c2
          have eT3 := bT.c3
          have eT4 := bT.c4
          have eU0 := bU.c0
          have eU1 := bU.c1
          have eU2 := bU.c2
          have eU3 := bU.c3
          have eU4 := bU.c4
          have lT := bT.lt
          have lU := bU.lt
          by_cases hlt : k < t.parts.length
          · have hne : t.parts ≠ [] := by intro e; rw [e] at hlt; simp at hlt
            have hlt' : k < u.parts.length := by rw [← HL.out]; exact hlt
            have hne' : u.parts ≠ [] := by intro e; rw [e] at hlt'; simp at hlt'
            obtain ⟨b, off, rfl, hS, hbl, hrr⟩ := Fm.sd_get (Fm.at_parts hT) hne
            obtain ⟨b', off', rfl, hS', hbl', hrr'⟩ := Fm.sd_get (Fm.at_parts hU) hne'
            obtain ⟨c0, c1, c2, c3, c4, q0, q1, q2, q3, q4, qx⟩ := hrr k hlt
            obtain ⟨d0, d1, d2, d3, d4, r0, r1, r2, r3, r4, rx⟩ := hrr' k hlt'
            obtain ⟨rfl, rfl, ⟨z2, n2, rfl⟩, rfl, z4, n4, rfl⟩ := Fm.at_form qx
            obtain ⟨rfl, rfl, ⟨y2, m2, rfl⟩, rfl, y4, m4, rfl⟩ := Fm.at_form rx
            have hbk1 : t.parts[k].bulk ≤ 1048576 := by have := Fm.bulk_mem (List.getElem_mem hlt); have := Fm.bulk_eq t; omega
            have hbk2 : u.parts[k].bulk ≤ 1048576 := by have := Fm.bulk_mem (List.getElem_mem hlt'); have := Fm.bulk_eq u; omega
            have hs1 : t.parts[k].size ≤ Fm.sizes t.parts := Fm.size_mem (List.getElem_mem hlt)
            have HM := hid (ih t.parts[k] (List.getElem_mem hlt) u.parts[k] (x) (y) S)
            have HSZ : Hid ((x).length + t.parts[k].size ≤ 1073741824 ∧ (y).length + t.parts[k].size ≤ 1073741824) := hid (by refine ⟨?_, ?_⟩ <;> (try simp only [List.length_append, List.length_cons, List.length_nil]) <;> omega)
            have HBK := hid (And.intro hbk1 hbk2)
            clear hrr hrr' hbk1 hbk2 hs1
            have e1 : b < wr.heap.size := hbl
            have e2 : b' < wr.heap.size := hbl'
            go_wp2_with fail
            refine wp_region_B [fun v _ => v = .pointer (some ⟨w.heap.size, 4, none⟩), fun v _ => v = .slice (some ⟨b, off, none⟩) t.parts.length cap2, fun v _ => v = .int .i64 k, fun v _ => v = .pointer (some ⟨b, off + k * 5, none⟩), fun v _ => v = .agg #[.int .i64 t.parts[k].op, .string t.parts[k].atom.name, .slice z2 t.parts[k].atom.args.length n2, .string t.parts[k].v, .slice z4 t.parts[k].parts.length n4], fun v _ => v = .pointer (some ⟨(w.heap.size + 1), 4, none⟩), fun v _ => v = .slice (some ⟨b', off', none⟩) u.parts.length cap2', fun v _ => v = .int .i64 k, fun v _ => v = .pointer (some ⟨b', off' + k * 5, none⟩), fun v _ => v = .agg #[.int .i64 u.parts[k].op, .string u.parts[k].atom.name, .slice y2 u.parts[k].atom.args.length m2, .string u.parts[k].v, .slice y4 u.parts[k].parts.length m4], fun v _ => v = .slice (some ⟨xb, xo, none⟩) x.length xcp, fun v _ => v = .slice (some ⟨yb, yo, none⟩) y.length ycp, fun v _ => v = .bool (Fm.alpha t.parts[k] u.parts[k] (x) (y)), fun v _ => v = .bool (!(Fm.alpha t.parts[k] u.parts[k] (x) (y)))] _ (fun V => by simp [putAll, Act.put]; rfl) (by kernel_rfl) (by decide) (by simp) (by kernel_rfl) ?_ ?_ ?_
            · intro F hF
              simp only [List.mem_cons, List.not_mem_nil, or_false] at hF
              rcases hF with rfl | rfl | rfl | rfl | rfl | rfl | rfl | rfl | rfl | rfl | rfl | rfl | rfl | rfl
              · exact stable_eq
              · exact stable_eq
              · exact stable_eq
              · exact stable_eq
              · exact stable_eq
              · exact stable_eq
              · exact stable_eq
              · exact stable_eq
              · exact stable_eq
              · exact stable_eq
              · exact stable_eq
              · exact stable_eq
              · exact stable_eq
              · exact stable_eq
            · refine ⟨?_, ?_, ?_, ?_, ?_, ?_, ?_, ?_, ?_, ?_, ?_, ?_, ?_, ?_, trivial⟩
              · intro V w1 hbR _
                unfold Does
                go_simp
                exact ⟨Below.refl _ _, rfl⟩
              · intro V w1 hbR ⟨f0, _⟩
                replace f0 : V 0 = .pointer (some ⟨w.heap.size, 4, none⟩) := f0
                obtain ⟨hc, hf⟩ := bcell hbR
                try simp only [World.size_alloc, World.size_setCell] at hc hf
                unfold Does
                go_simp
                exact ⟨Below.refl _ _, rfl⟩
              · intro V w1 hbR _
                unfold Does
                go_simp
                exact ⟨Below.refl _ _, rfl⟩
              · intro V w1 hbR ⟨f1, f2, _⟩
                replace f1 : V 1 = .slice (some ⟨b, off, none⟩) t.parts.length cap2 := f1
                replace f2 : V 2 = .int .i64 k := f2
                unfold Does
                go_simp
                exact ⟨Below.refl _ _, rfl⟩
              · intro V w1 hbR ⟨f3, _⟩
                replace f3 : V 3 = .pointer (some ⟨b, off + k * 5, none⟩) := f3
                obtain ⟨hc, hf⟩ := bcell hbR
                try simp only [World.size_alloc, World.size_setCell] at hc hf
                unfold Does
                go_simp
                exact ⟨Below.refl _ _, rfl⟩
              · intro V w1 hbR _
                unfold Does
                go_simp
                exact ⟨Below.refl _ _, rfl⟩
              · intro V w1 hbR ⟨f5, _⟩
                replace f5 : V 5 = .pointer (some ⟨(w.heap.size + 1), 4, none⟩) := f5
                obtain ⟨hc, hf⟩ := bcell hbR
                try simp only [World.size_alloc, World.size_setCell] at hc hf
                unfold Does
                go_simp
                exact ⟨Below.refl _ _, rfl⟩
              · intro V w1 hbR _
                unfold Does
                go_simp
                exact ⟨Below.refl _ _, rfl⟩
              · intro V w1 hbR ⟨f6, f7, _⟩
                replace f6 : V 6 = .slice (some ⟨b', off', none⟩) u.parts.length cap2' := f6
                replace f7 : V 7 = .int .i64 k := f7
                unfold Does
                go_simp
                exact ⟨Below.refl _ _, rfl⟩
              · intro V w1 hbR ⟨f8, _⟩
                replace f8 : V 8 = .pointer (some ⟨b', off' + k * 5, none⟩) := f8
                obtain ⟨hc, hf⟩ := bcell hbR
                try simp only [World.size_alloc, World.size_setCell] at hc hf
                unfold Does
                go_simp
                exact ⟨Below.refl _ _, rfl⟩
              · intro V w1 hbR _
                unfold Does
                go_simp
                exact ⟨Below.refl _ _, rfl⟩
              · intro V w1 hbR _
                unfold Does
                go_simp
                exact ⟨Below.refl _ _, rfl⟩
              · intro V w1 hbR ⟨f4, f9, f10, f11, _⟩
                replace f4 : V 4 = .agg #[.int .i64 t.parts[k].op, .string t.parts[k].atom.name, .slice z2 t.parts[k].atom.args.length n2, .string t.parts[k].v, .slice z4 t.parts[k].parts.length n4] := f4
                replace f9 : V 9 = .agg #[.int .i64 u.parts[k].op, .string u.parts[k].atom.name, .slice y2 u.parts[k].atom.args.length m2, .string u.parts[k].v, .slice y4 u.parts[k].parts.length m4] := f9
                replace f10 : V 10 = .slice (some ⟨xb, xo, none⟩) x.length xcp := f10
                replace f11 : V 11 = .slice (some ⟨yb, yo, none⟩) y.length ycp := f11
                obtain ⟨hc, hf⟩ := bcell hbR
                try simp only [World.size_alloc, World.size_setCell] at hc hf
                unfold Does
                go_simp
                exact HM.out _ _ _ _ _ _ _ _ _ _ _ _ _ (Fm.at_keep (Keeps.all hbR) qx) (Fm.at_keep (Keeps.all hbR) rx) (HX0.out.keep hbR) (HY0.out.keep hbR) (HFT.out _ (List.getElem_mem hlt)) (HFU.out _ (List.getElem_mem hlt')) HBK.out.1 HBK.out.2 HSZ.out.1 HSZ.out.2
              · intro V w1 hbR ⟨f12, _⟩
                replace f12 : V 12 = .bool (Fm.alpha t.parts[k] u.parts[k] (x) (y)) := f12
                unfold Does
                go_simp
                exact ⟨Below.refl _ _, rfl⟩
            intro V w2 hbR hfR
            obtain ⟨f0, f1, f2, f3, f4, f5, f6, f7, f8, f9, f10, f11, f12, f13, _⟩ := hfR
            replace f0 : V 0 = .pointer (some ⟨w.heap.size, 4, none⟩) := f0
            replace f1 : V 1 = .slice (some ⟨b, off, none⟩) t.parts.length cap2 := f1
            replace f2 : V 2 = .int .i64 k := f2
            replace f3 : V 3 = .pointer (some ⟨b, off + k * 5, none⟩) := f3
            replace f4 : V 4 = .agg #[.int .i64 t.parts[k].op, .string t.parts[k].atom.name, .slice z2 t.parts[k].atom.args.length n2, .string t.parts[k].v, .slice z4 t.parts[k].parts.length n4] := f4
            replace f5 : V 5 = .pointer (some ⟨(w.heap.size + 1), 4, none⟩) := f5
            replace f6 : V 6 = .slice (some ⟨b', off', none⟩) u.parts.length cap2' := f6
            replace f7 : V 7 = .int .i64 k := f7
            replace f8 : V 8 = .pointer (some ⟨b', off' + k * 5, none⟩) := f8
            replace f9 : V 9 = .agg #[.int .i64 u.parts[k].op, .string u.parts[k].atom.name, .slice y2 u.parts[k].atom.args.length m2, .string u.parts[k].v, .slice y4 u.parts[k].parts.length m4] := f9
            replace f10 : V 10 = .slice (some ⟨xb, xo, none⟩) x.length xcp := f10
            replace f11 : V 11 = .slice (some ⟨yb, yo, none⟩) y.length ycp := f11
            replace f12 : V 12 = .bool (Fm.alpha t.parts[k] u.parts[k] (x) (y)) := f12
            replace f13 : V 13 = .bool (!(Fm.alpha t.parts[k] u.parts[k] (x) (y))) := f13
            simp only [f0, f1, f2, f3, f4, f5, f6, f7, f8, f9, f10, f11, f12, f13]
            clear f0 f1 f2 f3 f4 f5 f6 f7 f8 f9 f10 f11 f12 f13
            by_cases he : Fm.alpha t.parts[k] u.parts[k] (x) (y) = true
            · have HZ : Hid (∀ j (h : j < t.parts.length) (h' : j < u.parts.length), j < k + 1 → Fm.alpha t.parts[j] u.parts[j] (x) (y) = true) := fun j h h' h0 => by
                by_cases hjk : j < k
                · exact HK.out j h h' hjk
                · obtain rfl : j = k := by omega
                  exact he
              rw [he]
              clear he
              go_wp2_with fail
              go_roundw
              case rel => exact ⟨k + 1, by omega, by go_num, HZ, hb0.trans (hbR.mono hb0.size)⟩
              case measure => simp [intOf]; omega
            · replace he : Fm.alpha t.parts[k] u.parts[k] (x) (y) = false := by simpa using he
              have HZ : Hid (Fm.alpha t u x y = false) := by rw [Hid, HD.out]; exact Fm.alphas_at hlt hlt' he
              rw [he]
              clear he
              go_wp2_with fail
              go_ret
              exact Gives.mk (ret_bool HZ.out.symm) (hW.trans (hbR.mono hW.size))
          · obtain rfl : k = t.parts.length := by omega
            have HZ : Hid (Fm.alpha t u x y = true) := by rw [Hid, HD.out, Fm.alphas_iff]; exact ⟨HL.out, fun j h h' => HK.out j h h' h⟩
            go_wp2_with fail
            go_ret
            exact Gives.mk (ret_bool HZ.out.symm) hW
  · have HX : Hid (Fm.alpha t u x y = false) := by rw [Hid, HC.out, if_neg ho]
    have o1 : (t.op == u.op) = false := by simp [ho]
    have o2 : (t.op != u.op) = true := by simp [ho]
    clear ho
    obtain ⟨rfl, rfl, ⟨a, cap, rfl⟩, rfl, a2, cap2, rfl⟩ := Fm.at_form hT
    obtain ⟨rfl, rfl, ⟨a', cap', rfl⟩, rfl, a2', cap2', rfl⟩ := Fm.at_form hU
    have hW : Below w.heap.size w ((w.alloc (.cells #[.int .i64 t.op, .string t.atom.name, .slice a t.atom.args.length cap, .string t.v, .slice a2 t.parts.length cap2] 36)).alloc (.cells #[.int .i64 u.op, .string u.atom.name, .slice a' u.atom.args.length cap', .string u.v, .slice a2' u.parts.length cap2'] 36)) := ((Below.refl _ _).alloc (Nat.le_refl _) _).alloc (by simp) _
    have bT : Box ((w.alloc (.cells #[.int .i64 t.op, .string t.atom.name, .slice a t.atom.args.length cap, .string t.v, .slice a2 t.parts.length cap2] 36)).alloc (.cells #[.int .i64 u.op, .string u.atom.name, .slice a' u.atom.args.length cap', .string u.v, .slice a2' u.parts.length cap2'] 36)) w.heap.size [.int .i64 t.op, .string t.atom.name, .slice a t.atom.args.length cap, .string t.v, .slice a2 t.parts.length cap2] := (Box.new w _ _).alloc _
    have bU : Box ((w.alloc (.cells #[.int .i64 t.op, .string t.atom.name, .slice a t.atom.args.length cap, .string t.v, .slice a2 t.parts.length cap2] 36)).alloc (.cells #[.int .i64 u.op, .string u.atom.name, .slice a' u.atom.args.length cap', .string u.v, .slice a2' u.parts.length cap2'] 36)) (w.heap.size + 1) [.int .i64 u.op, .string u.atom.name, .slice a' u.atom.args.length cap', .string u.v, .slice a2' u.parts.length cap2'] := by
      have := Box.new (w.alloc (.cells #[.int .i64 t.op, .string t.atom.name, .slice a t.atom.args.length cap, .string t.v, .slice a2 t.parts.length cap2] 36)) [.int .i64 u.op, .string u.atom.name, .slice a' u.atom.args.length cap', .string u.v, .slice a2' u.parts.length cap2'] 36
      simpa only [World.size_alloc] using this
    replace hT := Fm.at_keep (Keeps.all hW) hT
    replace hU := Fm.at_keep (Keeps.all hW) hU
    go_enter Try.func27, Try.ntmps27
    go_wp2_with fail
    generalize ((w.alloc (.cells #[.int .i64 t.op, .string t.atom.name, .slice a t.atom.args.length cap, .string t.v, .slice a2 t.parts.length cap2] 36)).alloc (.cells #[.int .i64 u.op, .string u.atom.name, .slice a' u.atom.args.length cap', .string u.v, .slice a2' u.parts.length cap2'] 36)) = w0 at *
    go_ret
    exact Gives.mk (ret_bool HX.out.symm) hW
theorem l8Alpha_any (t : Fm) : AlphaS t := Fm.ind (P := AlphaS) (fun o a v ps h => l8Alpha_of (.node o a v ps) h) t
end Go.Proofs.Ythpookgpmnbilaa
