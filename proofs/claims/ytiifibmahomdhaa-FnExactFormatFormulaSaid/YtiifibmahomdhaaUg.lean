/- The reference writes the texts of formulas. -/
import Derived.Test.YtiifibmahomdhaaUf
import Derived.Test.YtiifibmahomdhaaFg
import Derived.Test.YtiifibmahomdhaaTw
namespace Go.Proofs.Ytiifibmahomdhaa
set_option maxRecDepth 100000
open Go.RowKit

/-- the call returns the text of the formula -/
def FTextIs (f : FuncId) (t : Fm) : Prop := ∀ ⦃S : Nat → Prop⦄ ⦃c0 c1 c2 c3 c4 : Value⦄ ⦃w : World⦄, Fm.at S w c0 c1 c2 c3 c4 t → t.bulk ≤ 1048576 → t.forms = true → Calls Try.prog f #[.agg #[c0, c1, c2, c3, c4]] w (Gives w (.string (bs t.text)))

set_option maxHeartbeats 4000000 in
theorem l8Text_of (t : Fm) (h : ∀ p ∈ t.parts, FTextIs 73 p) : FTextIs 73 t := by
  intro S c0 c1 c2 c3 c4 w hT hbk hf
  have hfo : t.form = true := by rw [Fm.forms_eq, Bool.and_eq_true] at hf; exact hf.1
  have hfp : ∀ p ∈ t.parts, p.forms = true := by rw [Fm.forms_eq, Bool.and_eq_true] at hf; exact (Fm.formsAll_iff _).1 hf.2
  have HTX := hid (Fm.text_eq t)
  have hbA : t.atom.bulk ≤ 1048576 := by have := Fm.bulk_eq t; omega
  have hvl := Fm.v_le hT
  by_cases o1 : t.op = 1
  · have HG : Hid (t.text = [116, 114, 117, 101]) := by rw [Hid, HTX.out, o1]; rfl
    have s1 : (t.op == 1) = true := by simp [o1]
    clear o1
    obtain ⟨rfl, rfl, ⟨a, cap, rfl⟩, rfl, a2, cap2, rfl⟩ := Fm.at_form hT
    have hW : Below w.heap.size w (w.alloc (.cells #[.int .i64 t.op, .string t.atom.name, .slice a t.atom.args.length cap, .string t.v, .slice a2 t.parts.length cap2] 61)) := (Below.refl _ _).alloc (Nat.le_refl _) _
    have bT : Box (w.alloc (.cells #[.int .i64 t.op, .string t.atom.name, .slice a t.atom.args.length cap, .string t.v, .slice a2 t.parts.length cap2] 61)) w.heap.size [.int .i64 t.op, .string t.atom.name, .slice a t.atom.args.length cap, .string t.v, .slice a2 t.parts.length cap2] := Box.new w _ _
    replace hT := Fm.at_keep (Keeps.all hW) hT
    go_enter Try.func73, Try.ntmps73
    go_wp2_with fail
    generalize (w.alloc (.cells #[.int .i64 t.op, .string t.atom.name, .slice a t.atom.args.length cap, .string t.v, .slice a2 t.parts.length cap2] 61)) = w0 at *
    go_ret
    exact Gives.mk (ret_str (by rw [HG.out]; rfl)) hW
  have p1 : (t.op == 1) = false := by simp [o1]
  have r1 := hid o1
  clear o1
  by_cases o1 : t.op = 2
  · have HG : Hid (t.text = [102, 97, 108, 115, 101]) := by rw [Hid, HTX.out, o1]; rfl
    have s1 : (t.op == 2) = true := by simp [o1]
    clear o1
    obtain ⟨rfl, rfl, ⟨a, cap, rfl⟩, rfl, a2, cap2, rfl⟩ := Fm.at_form hT
    have hW : Below w.heap.size w (w.alloc (.cells #[.int .i64 t.op, .string t.atom.name, .slice a t.atom.args.length cap, .string t.v, .slice a2 t.parts.length cap2] 61)) := (Below.refl _ _).alloc (Nat.le_refl _) _
    have bT : Box (w.alloc (.cells #[.int .i64 t.op, .string t.atom.name, .slice a t.atom.args.length cap, .string t.v, .slice a2 t.parts.length cap2] 61)) w.heap.size [.int .i64 t.op, .string t.atom.name, .slice a t.atom.args.length cap, .string t.v, .slice a2 t.parts.length cap2] := Box.new w _ _
    replace hT := Fm.at_keep (Keeps.all hW) hT
    go_enter Try.func73, Try.ntmps73
    go_wp2_with fail
    generalize (w.alloc (.cells #[.int .i64 t.op, .string t.atom.name, .slice a t.atom.args.length cap, .string t.v, .slice a2 t.parts.length cap2] 61)) = w0 at *
    go_ret
    exact Gives.mk (ret_str (by rw [HG.out]; rfl)) hW
  have p2 : (t.op == 2) = false := by simp [o1]
  have r2 := hid o1
  clear o1
  by_cases o1 : t.op = 3
  · have hF := hfo
    rw [Fm.form_3 o1] at hF
    simp only [Bool.and_eq_true, decide_eq_true_eq] at hF
    have hsd := Tm.atom_sides hF.1.2
    have HG : Hid (t.text = t.atom.text) := by rw [Hid, HTX.out, o1]; rfl
    have s1 : (t.op == 3) = true := by simp [o1]
    clear o1 hF
    obtain ⟨rfl, rfl, ⟨a, cap, rfl⟩, rfl, a2, cap2, rfl⟩ := Fm.at_form hT
    have hW : Below w.heap.size w (w.alloc (.cells #[.int .i64 t.op, .string t.atom.name, .slice a t.atom.args.length cap, .string t.v, .slice a2 t.parts.length cap2] 61)) := (Below.refl _ _).alloc (Nat.le_refl _) _
    have bT : Box (w.alloc (.cells #[.int .i64 t.op, .string t.atom.name, .slice a t.atom.args.length cap, .string t.v, .slice a2 t.parts.length cap2] 61)) w.heap.size [.int .i64 t.op, .string t.atom.name, .slice a t.atom.args.length cap, .string t.v, .slice a2 t.parts.length cap2] := Box.new w _ _
    replace hT := Fm.at_keep (Keeps.all hW) hT
    go_enter Try.func73, Try.ntmps73
    go_wp2_with fail
    generalize (w.alloc (.cells #[.int .i64 t.op, .string t.atom.name, .slice a t.atom.args.length cap, .string t.v, .slice a2 t.parts.length cap2] 61)) = w0 at *
    refine (l3Term_any t.atom (Fm.at_atom hT) hbA hsd).mono ?_
    rintro e w1 ⟨_, rfl, hb, rfl⟩
    go_wp2_with fail
    go_ret
    exact Gives.mk (ret_str (by rw [HG.out])) (hW.trans (hb.mono hW.size))
  have p3 : (t.op == 3) = false := by simp [o1]
  have r3 := hid o1
  clear o1
  by_cases o1 : t.op = 4
  · have hF := hfo
    rw [Fm.form_4 o1] at hF
    simp only [Bool.and_eq_true, decide_eq_true_eq] at hF
    have HL := hid hF.1.1
    have i0' : 0 < t.parts.length := by rw [hF.1.1]; omega
    have s1 : (t.op == 4) = true := by simp [o1]
    have HX0 := hid (Fm.texts_0 i0')
    have gx : t.parts[0].text.length ≤ 25165844 := Fm.text_le _ (by have := Fm.bulk_mem (List.getElem_mem i0'); have := Fm.bulk_eq t; omega)
    have gz : (bs t.parts[0].text).size ≤ 25165844 := by rw [bs_size]; exact gx
    clear gx
    have hFP : t.parts[0].form = true := by have := hfp _ (List.getElem_mem i0'); rw [Fm.forms_eq, Bool.and_eq_true] at this; exact this.1
    by_cases he : t.parts[0].atom.name = eqSign
    · have HG : Hid (t.text = ([126, 40] : List UInt8) ++ t.parts[0].text ++ [41]) := by rw [Hid, HTX.out, o1, HX0.out, decide_eq_true he]; rfl
      have g0 : ¬ 9223372036854775807 < 2 + (bs t.parts[0].text).size := by omega
      have g1 : ¬ 9223372036854775807 < 2 + (bs t.parts[0].text).size + 1 := by omega
      have ho3 : t.parts[0].op = 3 := by
        by_cases q : t.parts[0].op = 3
        · exact q
        · have hh := hFP
          rw [Fm.form, if_neg q, Bool.and_eq_true, Bool.and_eq_true, Tm.none, Bool.and_eq_true, he] at hh
          exact absurd hh.1.2.1 (by decide)
      have s3 : (t.parts[0].op == 3) = true := by simp [ho3]
      have hq := eqName_yes he
      clear ho3 hFP
      clear o1 hF he
      obtain ⟨rfl, rfl, ⟨a, cap, rfl⟩, rfl, a2, cap2, rfl⟩ := Fm.at_form hT
      have hW : Below w.heap.size w (w.alloc (.cells #[.int .i64 t.op, .string t.atom.name, .slice a t.atom.args.length cap, .string t.v, .slice a2 t.parts.length cap2] 61)) := (Below.refl _ _).alloc (Nat.le_refl _) _
      have bT : Box (w.alloc (.cells #[.int .i64 t.op, .string t.atom.name, .slice a t.atom.args.length cap, .string t.v, .slice a2 t.parts.length cap2] 61)) w.heap.size [.int .i64 t.op, .string t.atom.name, .slice a t.atom.args.length cap, .string t.v, .slice a2 t.parts.length cap2] := Box.new w _ _
      replace hT := Fm.at_keep (Keeps.all hW) hT
      have hl := HL.out
      have hne : t.parts ≠ [] := by intro e; rw [e] at hl; simp at hl
      have i0 : 0 < t.parts.length := by omega
      have j0 : (0 : Int) < t.parts.length := by omega
      clear hl
      obtain ⟨b, off, rfl, hS, hbl, hrr⟩ := Fm.sd_get (Fm.at_parts hT) hne
      obtain ⟨d00, d01, d02, d03, d04, p00, p01, p02, p03, p04, p0x⟩ := hrr 0 i0
      obtain ⟨rfl, rfl, ⟨y0a, y0c, rfl⟩, rfl, z0a, z0c, rfl⟩ := Fm.at_form p0x
      have hm0 := h t.parts[0] (List.getElem_mem i0)
      have hB0 : t.parts[0].bulk ≤ 1048576 := by have := Fm.bulk_mem (List.getElem_mem i0); have := Fm.bulk_eq t; omega
      have hF0 := hfp _ (List.getElem_mem i0)
      clear hrr
      simp only [Nat.zero_mul, Nat.add_zero] at p00 p01 p02 p03 p04
      go_enter Try.func73, Try.ntmps73
      go_wp2_with fail
      generalize (w.alloc (.cells #[.int .i64 t.op, .string t.atom.name, .slice a t.atom.args.length cap, .string t.v, .slice (some ⟨b, off, none⟩) t.parts.length cap2] 61)) = w0 at *
      have eT0 := bT.c0
      have eT1 := bT.c1
      have eT2 := bT.c2
      have eT3 := bT.c3
      have eT4 := bT.c4
      have lT := bT.lt
      refine (hm0 p0x hB0 hF0).mono ?_
      rintro e w4 ⟨_, rfl, hb4, rfl⟩
      go_wp2_with fail
      go_ret
      exact Gives.mk (ret_str (by rw [HG.out, bs_mk #[126, 40], bs_mk #[41], bs_append, bs_append])) (hW.trans (hb4.mono hW.size))
    · have HG : Hid (t.text = ([126] : List UInt8) ++ t.parts[0].text) := by rw [Hid, HTX.out, o1, HX0.out, decide_eq_false he]; rfl
      have g0 : ¬ 9223372036854775807 < 1 + (bs t.parts[0].text).size := by omega
      have hq := eqName_no he
      clear hFP
      by_cases ho3 : t.parts[0].op = 3
      · have s3 : (t.parts[0].op == 3) = true := by simp [ho3]
        clear ho3
        clear o1 hF he
        obtain ⟨rfl, rfl, ⟨a, cap, rfl⟩, rfl, a2, cap2, rfl⟩ := Fm.at_form hT
        have hW : Below w.heap.size w (w.alloc (.cells #[.int .i64 t.op, .string t.atom.name, .slice a t.atom.args.length cap, .string t.v, .slice a2 t.parts.length cap2] 61)) := (Below.refl _ _).alloc (Nat.le_refl _) _
        have bT : Box (w.alloc (.cells #[.int .i64 t.op, .string t.atom.name, .slice a t.atom.args.length cap, .string t.v, .slice a2 t.parts.length cap2] 61)) w.heap.size [.int .i64 t.op, .string t.atom.name, .slice a t.atom.args.length cap, .string t.v, .slice a2 t.parts.length cap2] := Box.new w _ _
        replace hT := Fm.at_keep (Keeps.all hW) hT
        have hl := HL.out
        have hne : t.parts ≠ [] := by intro e; rw [e] at hl; simp at hl
        have i0 : 0 < t.parts.length := by omega
        have j0 : (0 : Int) < t.parts.length := by omega
        clear hl
        obtain ⟨b, off, rfl, hS, hbl, hrr⟩ := Fm.sd_get (Fm.at_parts hT) hne
        obtain ⟨d00, d01, d02, d03, d04, p00, p01, p02, p03, p04, p0x⟩ := hrr 0 i0
        obtain ⟨rfl, rfl, ⟨y0a, y0c, rfl⟩, rfl, z0a, z0c, rfl⟩ := Fm.at_form p0x
        have hm0 := h t.parts[0] (List.getElem_mem i0)
        have hB0 : t.parts[0].bulk ≤ 1048576 := by have := Fm.bulk_mem (List.getElem_mem i0); have := Fm.bulk_eq t; omega
        have hF0 := hfp _ (List.getElem_mem i0)
        clear hrr
        simp only [Nat.zero_mul, Nat.add_zero] at p00 p01 p02 p03 p04
        go_enter Try.func73, Try.ntmps73
        go_wp2_with fail
        generalize (w.alloc (.cells #[.int .i64 t.op, .string t.atom.name, .slice a t.atom.args.length cap, .string t.v, .slice (some ⟨b, off, none⟩) t.parts.length cap2] 61)) = w0 at *
        have eT0 := bT.c0
        have eT1 := bT.c1
        have eT2 := bT.c2
        have eT3 := bT.c3
        have eT4 := bT.c4
        have lT := bT.lt
        refine (hm0 p0x hB0 hF0).mono ?_
        rintro e w4 ⟨_, rfl, hb4, rfl⟩
        go_wp2_with fail
        go_ret
        exact Gives.mk (ret_str (by rw [HG.out, bs_mk #[126], bs_append])) (hW.trans (hb4.mono hW.size))
      · have s3 : (t.parts[0].op == 3) = false := by simp [ho3]
        clear ho3
        clear o1 hF he
        obtain ⟨rfl, rfl, ⟨a, cap, rfl⟩, rfl, a2, cap2, rfl⟩ := Fm.at_form hT
        have hW : Below w.heap.size w (w.alloc (.cells #[.int .i64 t.op, .string t.atom.name, .slice a t.atom.args.length cap, .string t.v, .slice a2 t.parts.length cap2] 61)) := (Below.refl _ _).alloc (Nat.le_refl _) _
        have bT : Box (w.alloc (.cells #[.int .i64 t.op, .string t.atom.name, .slice a t.atom.args.length cap, .string t.v, .slice a2 t.parts.length cap2] 61)) w.heap.size [.int .i64 t.op, .string t.atom.name, .slice a t.atom.args.length cap, .string t.v, .slice a2 t.parts.length cap2] := Box.new w _ _
        replace hT := Fm.at_keep (Keeps.all hW) hT
        have hl := HL.out
        have hne : t.parts ≠ [] := by intro e; rw [e] at hl; simp at hl
        have i0 : 0 < t.parts.length := by omega
        have j0 : (0 : Int) < t.parts.length := by omega
        clear hl
        obtain ⟨b, off, rfl, hS, hbl, hrr⟩ := Fm.sd_get (Fm.at_parts hT) hne
        obtain ⟨d00, d01, d02, d03, d04, p00, p01, p02, p03, p04, p0x⟩ := hrr 0 i0
        obtain ⟨rfl, rfl, ⟨y0a, y0c, rfl⟩, rfl, z0a, z0c, rfl⟩ := Fm.at_form p0x
        have hm0 := h t.parts[0] (List.getElem_mem i0)
        have hB0 : t.parts[0].bulk ≤ 1048576 := by have := Fm.bulk_mem (List.getElem_mem i0); have := Fm.bulk_eq t; omega
        have hF0 := hfp _ (List.getElem_mem i0)
        clear hrr
        simp only [Nat.zero_mul, Nat.add_zero] at p00 p01 p02 p03 p04
        go_enter Try.func73, Try.ntmps73
        go_wp2_with fail
        generalize (w.alloc (.cells #[.int .i64 t.op, .string t.atom.name, .slice a t.atom.args.length cap, .string t.v, .slice (some ⟨b, off, none⟩) t.parts.length cap2] 61)) = w0 at *
        have eT0 := bT.c0
        have eT1 := bT.c1
        have eT2 := bT.c2
        have eT3 := bT.c3
        have eT4 := bT.c4
        have lT := bT.lt
        refine (hm0 p0x hB0 hF0).mono ?_
        rintro e w4 ⟨_, rfl, hb4, rfl⟩
        go_wp2_with fail
        go_ret
        exact Gives.mk (ret_str (by rw [HG.out, bs_mk #[126], bs_append])) (hW.trans (hb4.mono hW.size))
  have p4 : (t.op == 4) = false := by simp [o1]
  have r4 := hid o1
  clear o1
  by_cases o1 : t.op = 8
  · have hF := hfo
    rw [Fm.form_8 o1] at hF
    simp only [Bool.and_eq_true, decide_eq_true_eq] at hF
    have HL := hid hF.1.1
    have i0' : 0 < t.parts.length := by rw [hF.1.1]; omega
    have s1 : (t.op == 8) = true := by simp [o1]
    have HX0 := hid (Fm.texts_0 i0')
    have gx : t.parts[0].text.length ≤ 25165844 := Fm.text_le _ (by have := Fm.bulk_mem (List.getElem_mem i0'); have := Fm.bulk_eq t; omega)
    obtain ⟨x0, Hx0⟩ : ∃ x0, Hid (x0 = t.parts[0].text) := ⟨_, hid rfl⟩
    have HG : Hid (t.text = ([97, 108, 108, 32] : List UInt8) ++ t.v.data.toList ++ [46] ++ x0) := by rw [Hid, HTX.out, o1, HX0.out, Hx0.out]; rfl
    rw [← Hx0.out] at gx
    have hvs : t.v.size ≤ 1048576 := by have := Fm.bulk_eq t; omega
    have hvd : t.v.data.toList.length = t.v.size := rfl
    obtain ⟨l1, H1⟩ : ∃ l1, Hid (l1 = ([97, 108, 108, 32] : List UInt8) ++ t.v.data.toList) := ⟨_, hid rfl⟩
    obtain ⟨l2, H2⟩ : ∃ l2, Hid (l2 = l1 ++ [46]) := ⟨_, hid rfl⟩
    obtain ⟨l3, H3⟩ : ∃ l3, Hid (l3 = l2 ++ x0) := ⟨_, hid rfl⟩
    have HT : Hid (t.text = l3) := by rw [Hid, HG.out, H3.out, H2.out, H1.out]
    have g0 : ¬ 9223372036854775807 < 4 + t.v.size := by omega
    have g1 : ¬ 9223372036854775807 < (bs l1).size + 1 := by rw [H1.out, bs_size]; simp only [List.length_append, List.length_cons, List.length_nil]; omega
    have g2 : ¬ 9223372036854775807 < (bs l2).size + (bs x0).size := by rw [H2.out, H1.out, bs_size, bs_size]; simp only [List.length_append, List.length_cons, List.length_nil]; omega
    clear o1 hF hvd hvs gx
    obtain ⟨rfl, rfl, ⟨a, cap, rfl⟩, rfl, a2, cap2, rfl⟩ := Fm.at_form hT
    have hW : Below w.heap.size w (w.alloc (.cells #[.int .i64 t.op, .string t.atom.name, .slice a t.atom.args.length cap, .string t.v, .slice a2 t.parts.length cap2] 61)) := (Below.refl _ _).alloc (Nat.le_refl _) _
    have bT : Box (w.alloc (.cells #[.int .i64 t.op, .string t.atom.name, .slice a t.atom.args.length cap, .string t.v, .slice a2 t.parts.length cap2] 61)) w.heap.size [.int .i64 t.op, .string t.atom.name, .slice a t.atom.args.length cap, .string t.v, .slice a2 t.parts.length cap2] := Box.new w _ _
    replace hT := Fm.at_keep (Keeps.all hW) hT
    go_enter Try.func73, Try.ntmps73
    go_wp2_with fail
    generalize (w.alloc (.cells #[.int .i64 t.op, .string t.atom.name, .slice a t.atom.args.length cap, .string t.v, .slice a2 t.parts.length cap2] 61)) = w0 at *
    have hl := HL.out
    have hne : t.parts ≠ [] := by intro e; rw [e] at hl; simp at hl
    have i0 : 0 < t.parts.length := by omega
    have j0 : (0 : Int) < t.parts.length := by omega
    clear hl
    obtain ⟨b, off, rfl, hS, hbl, hrr⟩ := Fm.sd_get (Fm.at_parts hT) hne
    obtain ⟨d00, d01, d02, d03, d04, p00, p01, p02, p03, p04, p0x⟩ := hrr 0 i0
    obtain ⟨rfl, rfl, ⟨y0a, y0c, rfl⟩, rfl, z0a, z0c, rfl⟩ := Fm.at_form p0x
    have hm0 := h t.parts[0] (List.getElem_mem i0)
    have hB0 : t.parts[0].bulk ≤ 1048576 := by have := Fm.bulk_mem (List.getElem_mem i0); have := Fm.bulk_eq t; omega
    have hF0 := hfp _ (List.getElem_mem i0)
    clear hrr
    simp only [Nat.zero_mul, Nat.add_zero] at p00 p01 p02 p03 p04
    have eT0 := bT.c0
    have eT1 := bT.c1
    have eT2 := bT.c2
    have eT3 := bT.c3
    have eT4 := bT.c4
    have lT := bT.lt
    refine wp_region_B [fun v _ => v = .pointer (some ⟨w.heap.size, 3, none⟩), fun v _ => v = .string t.v, fun v _ => v = .string (bs l1), fun v _ => v = .string (bs l2), fun v _ => v = .pointer (some ⟨w.heap.size, 4, none⟩), fun v _ => v = .slice (some ⟨b, off, none⟩) t.parts.length cap2, fun v _ => v = .pointer (some ⟨b, off, none⟩), fun v _ => v = .agg #[.int .i64 t.parts[0].op, .string t.parts[0].atom.name, .slice y0a t.parts[0].atom.args.length y0c, .string t.parts[0].v, .slice z0a t.parts[0].parts.length z0c], fun v _ => v = .string (bs x0), fun v _ => v = .string (bs l3), fun v _ => v = .string (bs l3)] _ (fun V => by simp [putAll, Act.put]; rfl) (by kernel_rfl) (by decide) (by simp) (by kernel_rfl) ?_ ?_ ?_
    · intro F hF
      simp only [List.mem_cons, List.not_mem_nil, or_false] at hF
      rcases hF with rfl | rfl | rfl | rfl | rfl | rfl | rfl | rfl | rfl | rfl | rfl
      · exact stable_eq
      · exact stable_eq
      · exact stable_eq
      · exact stable_eq
      · exact stable_eq
      · exact stable_eq
      · exact stable_eq
      · exact stable_eq
      · exact stable_eq
      · exact stable_eq
      · exact stable_eq
    · refine ⟨?_, ?_, ?_, ?_, ?_, ?_, ?_, ?_, ?_, ?_, ?_, trivial⟩
      · intro V w1 hbR _
        unfold Does
        go_simp
        exact ⟨Below.refl _ _, rfl⟩
      · intro V w1 hbR ⟨f0, _⟩
        replace f0 : V 0 = .pointer (some ⟨w.heap.size, 3, none⟩) := f0
        obtain ⟨hc, hf⟩ := bcell hbR
        try simp only [World.size_alloc, World.size_setCell] at hc hf
        unfold Does
        go_simp
        exact ⟨Below.refl _ _, rfl⟩
      · intro V w1 hbR ⟨f1, _⟩
        replace f1 : V 1 = .string t.v := f1
        unfold Does
        go_simp
        exact ⟨Below.refl _ _, congrArg Value.string (by rw [H1.out, bs_mk #[97, 108, 108, 32], ← bs_of t.v, bs_append]; simp [bs_of])⟩
      · intro V w1 hbR ⟨f2, _⟩
        replace f2 : V 2 = .string (bs l1) := f2
        unfold Does
        go_simp
        exact ⟨Below.refl _ _, congrArg Value.string (by rw [H2.out, bs_mk #[46], bs_append])⟩
      · intro V w1 hbR _
        unfold Does
        go_simp
        exact ⟨Below.refl _ _, rfl⟩
      · intro V w1 hbR ⟨f4, _⟩
        replace f4 : V 4 = .pointer (some ⟨w.heap.size, 4, none⟩) := f4
        obtain ⟨hc, hf⟩ := bcell hbR
        try simp only [World.size_alloc, World.size_setCell] at hc hf
        unfold Does
        go_simp
        exact ⟨Below.refl _ _, rfl⟩
      · intro V w1 hbR ⟨f5, _⟩
        replace f5 : V 5 = .slice (some ⟨b, off, none⟩) t.parts.length cap2 := f5
        unfold Does
        go_simp
        exact ⟨Below.refl _ _, rfl⟩
      · intro V w1 hbR ⟨f6, _⟩
        replace f6 : V 6 = .pointer (some ⟨b, off, none⟩) := f6
        obtain ⟨hc, hf⟩ := bcell hbR
        try simp only [World.size_alloc, World.size_setCell] at hc hf
        unfold Does
        go_simp
        exact ⟨Below.refl _ _, rfl⟩
      · intro V w1 hbR ⟨f7, _⟩
        replace f7 : V 7 = .agg #[.int .i64 t.parts[0].op, .string t.parts[0].atom.name, .slice y0a t.parts[0].atom.args.length y0c, .string t.parts[0].v, .slice z0a t.parts[0].parts.length z0c] := f7
        obtain ⟨hc, hf⟩ := bcell hbR
        try simp only [World.size_alloc, World.size_setCell] at hc hf
        unfold Does
        go_simp
        have hq := hm0 (Fm.at_keep (Keeps.all hbR) p0x) hB0 hF0; rw [← Hx0.out] at hq; exact hq
      · intro V w1 hbR ⟨f3, f8, _⟩
        replace f3 : V 3 = .string (bs l2) := f3
        replace f8 : V 8 = .string (bs x0) := f8
        unfold Does
        go_simp
        exact ⟨Below.refl _ _, congrArg Value.string (by rw [H3.out, bs_append])⟩
      · intro V w1 hbR ⟨f9, f8, f0, f1, f2, f3, f4, f5, f6, f7, _, _, _⟩
        replace f0 : V 0 = .pointer (some ⟨w.heap.size, 3, none⟩) := f0
        replace f1 : V 1 = .string t.v := f1
        replace f2 : V 2 = .string (bs l1) := f2
        replace f3 : V 3 = .string (bs l2) := f3
        replace f4 : V 4 = .pointer (some ⟨w.heap.size, 4, none⟩) := f4
        replace f5 : V 5 = .slice (some ⟨b, off, none⟩) t.parts.length cap2 := f5
        replace f6 : V 6 = .pointer (some ⟨b, off, none⟩) := f6
        replace f7 : V 7 = .agg #[.int .i64 t.parts[0].op, .string t.parts[0].atom.name, .slice y0a t.parts[0].atom.args.length y0c, .string t.parts[0].v, .slice z0a t.parts[0].parts.length z0c] := f7
        replace f8 : V 8 = .string (bs x0) := f8
        replace f9 : V 9 = .string (bs l3) := f9
        unfold Does
        go_simp
        exact ⟨Below.refl _ _, rfl⟩
    intro V w3 hbR hfR
    obtain ⟨f0, f1, f2, f3, f4, f5, f6, f7, f8, f9, f10, _⟩ := hfR
    replace f0 : V 0 = .pointer (some ⟨w.heap.size, 3, none⟩) := f0
    replace f1 : V 1 = .string t.v := f1
    replace f2 : V 2 = .string (bs l1) := f2
    replace f3 : V 3 = .string (bs l2) := f3
    replace f4 : V 4 = .pointer (some ⟨w.heap.size, 4, none⟩) := f4
    replace f5 : V 5 = .slice (some ⟨b, off, none⟩) t.parts.length cap2 := f5
    replace f6 : V 6 = .pointer (some ⟨b, off, none⟩) := f6
    replace f7 : V 7 = .agg #[.int .i64 t.parts[0].op, .string t.parts[0].atom.name, .slice y0a t.parts[0].atom.args.length y0c, .string t.parts[0].v, .slice z0a t.parts[0].parts.length z0c] := f7
    replace f8 : V 8 = .string (bs x0) := f8
    replace f9 : V 9 = .string (bs l3) := f9
    replace f10 : V 10 = .string (bs l3) := f10
    simp only [f0, f1, f2, f3, f4, f5, f6, f7, f8, f9, f10]
    clear f0 f1 f2 f3 f4 f5 f6 f7 f8 f9 f10
    clear eT0 eT1 eT2 eT3 eT4 lT
    go_wp2_with fail
    go_ret
    exact Gives.mk (ret_str (by rw [HT.out])) (hW.trans (hbR.mono hW.size))
  have p8 : (t.op == 8) = false := by simp [o1]
  have r8 := hid o1
  clear o1
  by_cases o1 : t.op = 9
  · have hF := hfo
    rw [Fm.form_9 o1] at hF
    simp only [Bool.and_eq_true, decide_eq_true_eq] at hF
    have HL := hid hF.1.1
    have i0' : 0 < t.parts.length := by rw [hF.1.1]; omega
    have s1 : (t.op == 9) = true := by simp [o1]
    have HX0 := hid (Fm.texts_0 i0')
    have gx : t.parts[0].text.length ≤ 25165844 := Fm.text_le _ (by have := Fm.bulk_mem (List.getElem_mem i0'); have := Fm.bulk_eq t; omega)
    obtain ⟨x0, Hx0⟩ : ∃ x0, Hid (x0 = t.parts[0].text) := ⟨_, hid rfl⟩
    have HG : Hid (t.text = ([115, 111, 109, 101, 32] : List UInt8) ++ t.v.data.toList ++ [46] ++ x0) := by rw [Hid, HTX.out, o1, HX0.out, Hx0.out]; rfl
    rw [← Hx0.out] at gx
    have hvs : t.v.size ≤ 1048576 := by have := Fm.bulk_eq t; omega
    have hvd : t.v.data.toList.length = t.v.size := rfl
    obtain ⟨l1, H1⟩ : ∃ l1, Hid (l1 = ([115, 111, 109, 101, 32] : List UInt8) ++ t.v.data.toList) := ⟨_, hid rfl⟩
    obtain ⟨l2, H2⟩ : ∃ l2, Hid (l2 = l1 ++ [46]) := ⟨_, hid rfl⟩
    obtain ⟨l3, H3⟩ : ∃ l3, Hid (l3 = l2 ++ x0) := ⟨_, hid rfl⟩
    have HT : Hid (t.text = l3) := by rw [Hid, HG.out, H3.out, H2.out, H1.out]
    have g0 : ¬ 9223372036854775807 < 5 + t.v.size := by omega
    have g1 : ¬ 9223372036854775807 < (bs l1).size + 1 := by rw [H1.out, bs_size]; simp only [List.length_append, List.length_cons, List.length_nil]; omega
    have g2 : ¬ 9223372036854775807 < (bs l2).size + (bs x0).size := by rw [H2.out, H1.out, bs_size, bs_size]; simp only [List.length_append, List.length_cons, List.length_nil]; omega
    clear o1 hF hvd hvs gx
    obtain ⟨rfl, rfl, ⟨a, cap, rfl⟩, rfl, a2, cap2, rfl⟩ := Fm.at_form hT
    have hW : Below w.heap.size w (w.alloc (.cells #[.int .i64 t.op, .string t.atom.name, .slice a t.atom.args.length cap, .string t.v, .slice a2 t.parts.length cap2] 61)) := (Below.refl _ _).alloc (Nat.le_refl _) _
    have bT : Box (w.alloc (.cells #[.int .i64 t.op, .string t.atom.name, .slice a t.atom.args.length cap, .string t.v, .slice a2 t.parts.length cap2] 61)) w.heap.size [.int .i64 t.op, .string t.atom.name, .slice a t.atom.args.length cap, .string t.v, .slice a2 t.parts.length cap2] := Box.new w _ _
    replace hT := Fm.at_keep (Keeps.all hW) hT
    go_enter Try.func73, Try.ntmps73
    go_wp2_with fail
    generalize (w.alloc (.cells #[.int .i64 t.op, .string t.atom.name, .slice a t.atom.args.length cap, .string t.v, .slice a2 t.parts.length cap2] 61)) = w0 at *
    have hl := HL.out
    have hne : t.parts ≠ [] := by intro e; rw [e] at hl; simp at hl
    have i0 : 0 < t.parts.length := by omega
    have j0 : (0 : Int) < t.parts.length := by omega
    clear hl
    obtain ⟨b, off, rfl, hS, hbl, hrr⟩ := Fm.sd_get (Fm.at_parts hT) hne
    obtain ⟨d00, d01, d02, d03, d04, p00, p01, p02, p03, p04, p0x⟩ := hrr 0 i0
    obtain ⟨rfl, rfl, ⟨y0a, y0c, rfl⟩, rfl, z0a, z0c, rfl⟩ := Fm.at_form p0x
    have hm0 := h t.parts[0] (List.getElem_mem i0)
    have hB0 : t.parts[0].bulk ≤ 1048576 := by have := Fm.bulk_mem (List.getElem_mem i0); have := Fm.bulk_eq t; omega
    have hF0 := hfp _ (List.getElem_mem i0)
    clear hrr
    simp only [Nat.zero_mul, Nat.add_zero] at p00 p01 p02 p03 p04
    have eT0 := bT.c0
    have eT1 := bT.c1
    have eT2 := bT.c2
    have eT3 := bT.c3
    have eT4 := bT.c4
    have lT := bT.lt
    refine wp_region_B [fun v _ => v = .pointer (some ⟨w.heap.size, 3, none⟩), fun v _ => v = .string t.v, fun v _ => v = .string (bs l1), fun v _ => v = .string (bs l2), fun v _ => v = .pointer (some ⟨w.heap.size, 4, none⟩), fun v _ => v = .slice (some ⟨b, off, none⟩) t.parts.length cap2, fun v _ => v = .pointer (some ⟨b, off, none⟩), fun v _ => v = .agg #[.int .i64 t.parts[0].op, .string t.parts[0].atom.name, .slice y0a t.parts[0].atom.args.length y0c, .string t.parts[0].v, .slice z0a t.parts[0].parts.length z0c], fun v _ => v = .string (bs x0), fun v _ => v = .string (bs l3), fun v _ => v = .string (bs l3)] _ (fun V => by simp [putAll, Act.put]; rfl) (by kernel_rfl) (by decide) (by simp) (by kernel_rfl) ?_ ?_ ?_
    · intro F hF
      simp only [List.mem_cons, List.not_mem_nil, or_false] at hF
      rcases hF with rfl | rfl | rfl | rfl | rfl | rfl | rfl | rfl | rfl | rfl | rfl
      · exact stable_eq
      · exact stable_eq
      · exact stable_eq
      · exact stable_eq
      · exact stable_eq
      · exact stable_eq
      · exact stable_eq
      · exact stable_eq
      · exact stable_eq
      · exact stable_eq
      · exact stable_eq
    · refine ⟨?_, ?_, ?_, ?_, ?_, ?_, ?_, ?_, ?_, ?_, ?_, trivial⟩
      · intro V w1 hbR _
        unfold Does
        go_simp
        exact ⟨Below.refl _ _, rfl⟩
      · intro V w1 hbR ⟨f0, _⟩
        replace f0 : V 0 = .pointer (some ⟨w.heap.size, 3, none⟩) := f0
        obtain ⟨hc, hf⟩ := bcell hbR
        try simp only [World.size_alloc, World.size_setCell] at hc hf
        unfold Does
        go_simp
        exact ⟨Below.refl _ _, rfl⟩
      · intro V w1 hbR ⟨f1, _⟩
        replace f1 : V 1 = .string t.v := f1
        unfold Does
        go_simp
        exact ⟨Below.refl _ _, congrArg Value.string (by rw [H1.out, bs_mk #[115, 111, 109, 101, 32], ← bs_of t.v, bs_append]; simp [bs_of])⟩
      · intro V w1 hbR ⟨f2, _⟩
        replace f2 : V 2 = .string (bs l1) := f2
        unfold Does
        go_simp
        exact ⟨Below.refl _ _, congrArg Value.string (by rw [H2.out, bs_mk #[46], bs_append])⟩
      · intro V w1 hbR _
        unfold Does
        go_simp
        exact ⟨Below.refl _ _, rfl⟩
      · intro V w1 hbR ⟨f4, _⟩
        replace f4 : V 4 = .pointer (some ⟨w.heap.size, 4, none⟩) := f4
        obtain ⟨hc, hf⟩ := bcell hbR
        try simp only [World.size_alloc, World.size_setCell] at hc hf
        unfold Does
        go_simp
        exact ⟨Below.refl _ _, rfl⟩
      · intro V w1 hbR ⟨f5, _⟩
        replace f5 : V 5 = .slice (some ⟨b, off, none⟩) t.parts.length cap2 := f5
        unfold Does
        go_simp
        exact ⟨Below.refl _ _, rfl⟩
      · intro V w1 hbR ⟨f6, _⟩
        replace f6 : V 6 = .pointer (some ⟨b, off, none⟩) := f6
        obtain ⟨hc, hf⟩ := bcell hbR
        try simp only [World.size_alloc, World.size_setCell] at hc hf
        unfold Does
        go_simp
        exact ⟨Below.refl _ _, rfl⟩
      · intro V w1 hbR ⟨f7, _⟩
        replace f7 : V 7 = .agg #[.int .i64 t.parts[0].op, .string t.parts[0].atom.name, .slice y0a t.parts[0].atom.args.length y0c, .string t.parts[0].v, .slice z0a t.parts[0].parts.length z0c] := f7
        obtain ⟨hc, hf⟩ := bcell hbR
        try simp only [World.size_alloc, World.size_setCell] at hc hf
        unfold Does
        go_simp
        have hq := hm0 (Fm.at_keep (Keeps.all hbR) p0x) hB0 hF0; rw [← Hx0.out] at hq; exact hq
      · intro V w1 hbR ⟨f3, f8, _⟩
        replace f3 : V 3 = .string (bs l2) := f3
        replace f8 : V 8 = .string (bs x0) := f8
        unfold Does
        go_simp
        exact ⟨Below.refl _ _, congrArg Value.string (by rw [H3.out, bs_append])⟩
      · intro V w1 hbR ⟨f9, f8, f0, f1, f2, f3, f4, f5, f6, f7, _, _, _⟩
        replace f0 : V 0 = .pointer (some ⟨w.heap.size, 3, none⟩) := f0
        replace f1 : V 1 = .string t.v := f1
        replace f2 : V 2 = .string (bs l1) := f2
        replace f3 : V 3 = .string (bs l2) := f3
        replace f4 : V 4 = .pointer (some ⟨w.heap.size, 4, none⟩) := f4
        replace f5 : V 5 = .slice (some ⟨b, off, none⟩) t.parts.length cap2 := f5
        replace f6 : V 6 = .pointer (some ⟨b, off, none⟩) := f6
        replace f7 : V 7 = .agg #[.int .i64 t.parts[0].op, .string t.parts[0].atom.name, .slice y0a t.parts[0].atom.args.length y0c, .string t.parts[0].v, .slice z0a t.parts[0].parts.length z0c] := f7
        replace f8 : V 8 = .string (bs x0) := f8
        replace f9 : V 9 = .string (bs l3) := f9
        unfold Does
        go_simp
        exact ⟨Below.refl _ _, rfl⟩
    intro V w3 hbR hfR
    obtain ⟨f0, f1, f2, f3, f4, f5, f6, f7, f8, f9, f10, _⟩ := hfR
    replace f0 : V 0 = .pointer (some ⟨w.heap.size, 3, none⟩) := f0
    replace f1 : V 1 = .string t.v := f1
    replace f2 : V 2 = .string (bs l1) := f2
    replace f3 : V 3 = .string (bs l2) := f3
    replace f4 : V 4 = .pointer (some ⟨w.heap.size, 4, none⟩) := f4
    replace f5 : V 5 = .slice (some ⟨b, off, none⟩) t.parts.length cap2 := f5
    replace f6 : V 6 = .pointer (some ⟨b, off, none⟩) := f6
    replace f7 : V 7 = .agg #[.int .i64 t.parts[0].op, .string t.parts[0].atom.name, .slice y0a t.parts[0].atom.args.length y0c, .string t.parts[0].v, .slice z0a t.parts[0].parts.length z0c] := f7
    replace f8 : V 8 = .string (bs x0) := f8
    replace f9 : V 9 = .string (bs l3) := f9
    replace f10 : V 10 = .string (bs l3) := f10
    simp only [f0, f1, f2, f3, f4, f5, f6, f7, f8, f9, f10]
    clear f0 f1 f2 f3 f4 f5 f6 f7 f8 f9 f10
    clear eT0 eT1 eT2 eT3 eT4 lT
    go_wp2_with fail
    go_ret
    exact Gives.mk (ret_str (by rw [HT.out])) (hW.trans (hbR.mono hW.size))
  have p9 : (t.op == 9) = false := by simp [o1]
  have r9 := hid o1
  clear o1
  have HL : Hid (t.parts.length = 2) := by
    have hF := hfo
    by_cases o5 : t.op = 5
    · rw [Fm.form_5 o5] at hF; simp only [Bool.and_eq_true, decide_eq_true_eq] at hF; exact hF.1.1
    by_cases o6 : t.op = 6
    · rw [Fm.form_6 o6] at hF; simp only [Bool.and_eq_true, decide_eq_true_eq] at hF; exact hF.1.1
    by_cases o7 : t.op = 7
    · rw [Fm.form_7 o7] at hF; simp only [Bool.and_eq_true, decide_eq_true_eq] at hF; exact hF.1.1
    rw [Fm.form_none r1.out r2.out r3.out r4.out o5 o6 o7 r8.out r9.out] at hF; exact absurd hF (by simp)
  have i0' : 0 < t.parts.length := by rw [HL.out]; omega
  have i1' : 1 < t.parts.length := by rw [HL.out]; omega
  have gx0 : t.parts[0].text.length ≤ 25165844 := Fm.text_le _ (by have := Fm.bulk_mem (List.getElem_mem i0'); have := Fm.bulk_eq t; omega)
  have gx1 : t.parts[1].text.length ≤ 25165844 := Fm.text_le _ (by have := Fm.bulk_mem (List.getElem_mem i1'); have := Fm.bulk_eq t; omega)
  obtain ⟨x0, Hx0⟩ : ∃ x0, Hid (x0 = t.parts[0].text) := ⟨_, hid rfl⟩
  obtain ⟨x1, Hx1⟩ : ∃ x1, Hid (x1 = t.parts[1].text) := ⟨_, hid rfl⟩
  obtain ⟨sg, Hsg⟩ : ∃ sg, Hid (sg = signOf t.op) := ⟨_, hid rfl⟩
  have gsg : sg.length ≤ 4 := by rw [Hsg.out]; exact signOf_length _
  have HG : Hid (t.text = ([40] : List UInt8) ++ x0 ++ sg ++ x1 ++ [41]) := by
    rw [Hid, HTX.out, Fm.texts_0 i0', Fm.texts_1 i1', fText, if_neg r1.out, if_neg r2.out, if_neg r3.out, if_neg r4.out, if_neg r8.out, if_neg r9.out, Hx0.out, Hx1.out, Hsg.out]
  rw [← Hx0.out] at gx0
  rw [← Hx1.out] at gx1
  obtain ⟨l1, H1⟩ : ∃ l1, Hid (l1 = ([40] : List UInt8) ++ x0) := ⟨_, hid rfl⟩
  obtain ⟨l2, H2⟩ : ∃ l2, Hid (l2 = l1 ++ sg) := ⟨_, hid rfl⟩
  obtain ⟨l3, H3⟩ : ∃ l3, Hid (l3 = l2 ++ x1) := ⟨_, hid rfl⟩
  obtain ⟨l4, H4⟩ : ∃ l4, Hid (l4 = l3 ++ [41]) := ⟨_, hid rfl⟩
  have HT : Hid (t.text = l4) := by rw [Hid, HG.out, H4.out, H3.out, H2.out, H1.out]
  have g0 : ¬ 9223372036854775807 < 1 + (bs x0).size := by rw [bs_size]; omega
  have g1 : ¬ 9223372036854775807 < (bs l1).size + (bs sg).size := by rw [H1.out, bs_size, bs_size]; simp only [List.length_append, List.length_cons, List.length_nil]; omega
  have g2 : ¬ 9223372036854775807 < (bs l2).size + (bs x1).size := by rw [H2.out, H1.out, bs_size, bs_size]; simp only [List.length_append, List.length_cons, List.length_nil]; omega
  have g3 : ¬ 9223372036854775807 < (bs l3).size + 1 := by rw [H3.out, H2.out, H1.out, bs_size]; simp only [List.length_append, List.length_cons, List.length_nil]; omega
  clear gx0 gx1 gsg
  by_cases o7 : t.op = 7
  · have s7 : (t.op == 7) = true := by simp [o7]
    have s6 : (t.op == 6) = false := by simp [o7]
    have Hsw : Hid (bs sg = ⟨#[32, 61, 62, 32]⟩) := by rw [Hid, Hsg.out]; unfold signOf; simp [o7]; rfl
    clear o7
    obtain ⟨rfl, rfl, ⟨a, cap, rfl⟩, rfl, a2, cap2, rfl⟩ := Fm.at_form hT
    have hW : Below w.heap.size w (w.alloc (.cells #[.int .i64 t.op, .string t.atom.name, .slice a t.atom.args.length cap, .string t.v, .slice a2 t.parts.length cap2] 61)) := (Below.refl _ _).alloc (Nat.le_refl _) _
    have bT : Box (w.alloc (.cells #[.int .i64 t.op, .string t.atom.name, .slice a t.atom.args.length cap, .string t.v, .slice a2 t.parts.length cap2] 61)) w.heap.size [.int .i64 t.op, .string t.atom.name, .slice a t.atom.args.length cap, .string t.v, .slice a2 t.parts.length cap2] := Box.new w _ _
    replace hT := Fm.at_keep (Keeps.all hW) hT
    go_enter Try.func73, Try.ntmps73
    go_wp2_with fail
    generalize (w.alloc (.cells #[.int .i64 t.op, .string t.atom.name, .slice a t.atom.args.length cap, .string t.v, .slice a2 t.parts.length cap2] 61)) = w0 at *
    have hl := HL.out
    have hne : t.parts ≠ [] := by intro e; rw [e] at hl; simp at hl
    have i0 : 0 < t.parts.length := by omega
    have j0 : (0 : Int) < t.parts.length := by omega
    have i1 : 1 < t.parts.length := by omega
    have j1 : (1 : Int) < t.parts.length := by omega
    clear hl
    obtain ⟨b, off, rfl, hS, hbl, hrr⟩ := Fm.sd_get (Fm.at_parts hT) hne
    obtain ⟨d00, d01, d02, d03, d04, p00, p01, p02, p03, p04, p0x⟩ := hrr 0 i0
    obtain ⟨rfl, rfl, ⟨y0a, y0c, rfl⟩, rfl, z0a, z0c, rfl⟩ := Fm.at_form p0x
    have hm0 := h t.parts[0] (List.getElem_mem i0)
    have hB0 : t.parts[0].bulk ≤ 1048576 := by have := Fm.bulk_mem (List.getElem_mem i0); have := Fm.bulk_eq t; omega
    have hF0 := hfp _ (List.getElem_mem i0)
    obtain ⟨d10, d11, d12, d13, d14, p10, p11, p12, p13, p14, p1x⟩ := hrr 1 i1
    obtain ⟨rfl, rfl, ⟨y1a, y1c, rfl⟩, rfl, z1a, z1c, rfl⟩ := Fm.at_form p1x
    have hm1 := h t.parts[1] (List.getElem_mem i1)
    have hB1 : t.parts[1].bulk ≤ 1048576 := by have := Fm.bulk_mem (List.getElem_mem i1); have := Fm.bulk_eq t; omega
    have hF1 := hfp _ (List.getElem_mem i1)
    clear hrr
    simp only [Nat.zero_mul, Nat.add_zero, Nat.one_mul] at p00 p01 p02 p03 p04 p10 p11 p12 p13 p14
    have eT0 := bT.c0
    have eT1 := bT.c1
    have eT2 := bT.c2
    have eT3 := bT.c3
    have eT4 := bT.c4
    have lT := bT.lt
    go_wp2_with fail
    rw [← Hsw.out]
    refine wp_region_B [fun v _ => v = .pointer (some ⟨w.heap.size, 4, none⟩), fun v _ => v = .slice (some ⟨b, off, none⟩) t.parts.length cap2, fun v _ => v = .pointer (some ⟨b, off, none⟩), fun v _ => v = .agg #[.int .i64 t.parts[0].op, .string t.parts[0].atom.name, .slice y0a t.parts[0].atom.args.length y0c, .string t.parts[0].v, .slice z0a t.parts[0].parts.length z0c], fun v _ => v = .string (bs x0), fun v _ => v = .string (bs l1), fun v _ => v = .string (bs sg), fun v _ => v = .string (bs l2), fun v _ => v = .pointer (some ⟨w.heap.size, 4, none⟩), fun v _ => v = .slice (some ⟨b, off, none⟩) t.parts.length cap2, fun v _ => v = .pointer (some ⟨b, off + 5, none⟩), fun v _ => v = .agg #[.int .i64 t.parts[1].op, .string t.parts[1].atom.name, .slice y1a t.parts[1].atom.args.length y1c, .string t.parts[1].v, .slice z1a t.parts[1].parts.length z1c], fun v _ => v = .string (bs x1), fun v _ => v = .string (bs l3), fun v _ => v = .string (bs l4), fun v _ => v = .string (bs l4)] _ (fun V => by simp [putAll, Act.put]; rfl) (by kernel_rfl) (by decide) (by simp) (by kernel_rfl) ?_ ?_ ?_
    · intro F hF
      simp only [List.mem_cons, List.not_mem_nil, or_false] at hF
      rcases hF with rfl | rfl | rfl | rfl | rfl | rfl | rfl | rfl | rfl | rfl | rfl | rfl | rfl | rfl | rfl | rfl
      · exact stable_eq
      · exact stable_eq
      · exact stable_eq
      · exact stable_eq
      · exact stable_eq
      · exact stable_eq
      · exact stable_eq
      · exact stable_eq
      · exact stable_eq
      · exact stable_eq
      · exact stable_eq
      · exact stable_eq
      · exact stable_eq
      · exact stable_eq
      · exact stable_eq
      · exact stable_eq
    · refine ⟨?_, ?_, ?_, ?_, ?_, ?_, ?_, ?_, ?_, ?_, ?_, ?_, ?_, ?_, ?_, ?_, trivial⟩
      · intro V w1 hbR _
        unfold Does
        go_simp
        exact ⟨Below.refl _ _, rfl⟩
      · intro V w1 hbR ⟨f0, _⟩
        replace f0 : V 0 = .pointer (some ⟨w.heap.size, 4, none⟩) := f0
        obtain ⟨hc, hf⟩ := bcell hbR
        try simp only [World.size_alloc, World.size_setCell] at hc hf
        unfold Does
        go_simp
        exact ⟨Below.refl _ _, rfl⟩
      · intro V w1 hbR ⟨f1, _⟩
        replace f1 : V 1 = .slice (some ⟨b, off, none⟩) t.parts.length cap2 := f1
        unfold Does
        go_simp
        exact ⟨Below.refl _ _, rfl⟩
      · intro V w1 hbR ⟨f2, _⟩
        replace f2 : V 2 = .pointer (some ⟨b, off, none⟩) := f2
        obtain ⟨hc, hf⟩ := bcell hbR
        try simp only [World.size_alloc, World.size_setCell] at hc hf
        unfold Does
        go_simp
        exact ⟨Below.refl _ _, rfl⟩
      · intro V w1 hbR ⟨f3, _⟩
        replace f3 : V 3 = .agg #[.int .i64 t.parts[0].op, .string t.parts[0].atom.name, .slice y0a t.parts[0].atom.args.length y0c, .string t.parts[0].v, .slice z0a t.parts[0].parts.length z0c] := f3
        obtain ⟨hc, hf⟩ := bcell hbR
        try simp only [World.size_alloc, World.size_setCell] at hc hf
        unfold Does
        go_simp
        have hq := hm0 (Fm.at_keep (Keeps.all hbR) p0x) hB0 hF0; rw [← Hx0.out] at hq; exact hq
      · intro V w1 hbR ⟨f4, _⟩
        replace f4 : V 4 = .string (bs x0) := f4
        unfold Does
        go_simp
        exact ⟨Below.refl _ _, congrArg Value.string (by rw [H1.out, bs_mk #[40], bs_append])⟩
      · intro V w1 hbR _
        unfold Does
        go_simp
        exact ⟨Below.refl _ _, rfl⟩
      · intro V w1 hbR ⟨f5, f6, _⟩
        replace f5 : V 5 = .string (bs l1) := f5
        replace f6 : V 6 = .string (bs sg) := f6
        unfold Does
        go_simp
        exact ⟨Below.refl _ _, congrArg Value.string (by rw [H2.out, bs_append])⟩
      · intro V w1 hbR _
        unfold Does
        go_simp
        exact ⟨Below.refl _ _, rfl⟩
      · intro V w1 hbR ⟨f8, _⟩
        replace f8 : V 8 = .pointer (some ⟨w.heap.size, 4, none⟩) := f8
        obtain ⟨hc, hf⟩ := bcell hbR
        try simp only [World.size_alloc, World.size_setCell] at hc hf
        unfold Does
        go_simp
        exact ⟨Below.refl _ _, rfl⟩
      · intro V w1 hbR ⟨f9, _⟩
        replace f9 : V 9 = .slice (some ⟨b, off, none⟩) t.parts.length cap2 := f9
        unfold Does
        go_simp
        exact ⟨Below.refl _ _, rfl⟩
      · intro V w1 hbR ⟨f10, _⟩
        replace f10 : V 10 = .pointer (some ⟨b, off + 5, none⟩) := f10
        obtain ⟨hc, hf⟩ := bcell hbR
        try simp only [World.size_alloc, World.size_setCell] at hc hf
        unfold Does
        go_simp
        exact ⟨Below.refl _ _, rfl⟩
      · intro V w1 hbR ⟨f11, f4, _⟩
        replace f4 : V 4 = .string (bs x0) := f4
        replace f11 : V 11 = .agg #[.int .i64 t.parts[1].op, .string t.parts[1].atom.name, .slice y1a t.parts[1].atom.args.length y1c, .string t.parts[1].v, .slice z1a t.parts[1].parts.length z1c] := f11
        obtain ⟨hc, hf⟩ := bcell hbR
        try simp only [World.size_alloc, World.size_setCell] at hc hf
        unfold Does
        go_simp
        have hq := hm1 (Fm.at_keep (Keeps.all hbR) p1x) hB1 hF1; rw [← Hx1.out] at hq; exact hq
      · intro V w1 hbR ⟨f7, f12, _⟩
        replace f7 : V 7 = .string (bs l2) := f7
        replace f12 : V 12 = .string (bs x1) := f12
        unfold Does
        go_simp
        exact ⟨Below.refl _ _, congrArg Value.string (by rw [H3.out, bs_append])⟩
      · intro V w1 hbR ⟨f13, _⟩
        replace f13 : V 13 = .string (bs l3) := f13
        unfold Does
        go_simp
        exact ⟨Below.refl _ _, congrArg Value.string (by rw [H4.out, bs_mk #[41], bs_append])⟩
      · intro V w1 hbR ⟨f14, f12, f0, f1, f2, f3, f4, f5, f6, f7, f8, f9, f10, f11, _, f13, _, _⟩
        replace f0 : V 0 = .pointer (some ⟨w.heap.size, 4, none⟩) := f0
        replace f1 : V 1 = .slice (some ⟨b, off, none⟩) t.parts.length cap2 := f1
        replace f2 : V 2 = .pointer (some ⟨b, off, none⟩) := f2
        replace f3 : V 3 = .agg #[.int .i64 t.parts[0].op, .string t.parts[0].atom.name, .slice y0a t.parts[0].atom.args.length y0c, .string t.parts[0].v, .slice z0a t.parts[0].parts.length z0c] := f3
        replace f4 : V 4 = .string (bs x0) := f4
        replace f5 : V 5 = .string (bs l1) := f5
        replace f6 : V 6 = .string (bs sg) := f6
        replace f7 : V 7 = .string (bs l2) := f7
        replace f8 : V 8 = .pointer (some ⟨w.heap.size, 4, none⟩) := f8
        replace f9 : V 9 = .slice (some ⟨b, off, none⟩) t.parts.length cap2 := f9
        replace f10 : V 10 = .pointer (some ⟨b, off + 5, none⟩) := f10
        replace f11 : V 11 = .agg #[.int .i64 t.parts[1].op, .string t.parts[1].atom.name, .slice y1a t.parts[1].atom.args.length y1c, .string t.parts[1].v, .slice z1a t.parts[1].parts.length z1c] := f11
        replace f12 : V 12 = .string (bs x1) := f12
        replace f13 : V 13 = .string (bs l3) := f13
        replace f14 : V 14 = .string (bs l4) := f14
        unfold Does
        go_simp
        exact ⟨Below.refl _ _, rfl⟩
    intro V w3 hbR hfR
    obtain ⟨f0, f1, f2, f3, f4, f5, f6, f7, f8, f9, f10, f11, f12, f13, f14, f15, _⟩ := hfR
    replace f0 : V 0 = .pointer (some ⟨w.heap.size, 4, none⟩) := f0
    replace f1 : V 1 = .slice (some ⟨b, off, none⟩) t.parts.length cap2 := f1
    replace f2 : V 2 = .pointer (some ⟨b, off, none⟩) := f2
    replace f3 : V 3 = .agg #[.int .i64 t.parts[0].op, .string t.parts[0].atom.name, .slice y0a t.parts[0].atom.args.length y0c, .string t.parts[0].v, .slice z0a t.parts[0].parts.length z0c] := f3
    replace f4 : V 4 = .string (bs x0) := f4
    replace f5 : V 5 = .string (bs l1) := f5
    replace f6 : V 6 = .string (bs sg) := f6
    replace f7 : V 7 = .string (bs l2) := f7
    replace f8 : V 8 = .pointer (some ⟨w.heap.size, 4, none⟩) := f8
    replace f9 : V 9 = .slice (some ⟨b, off, none⟩) t.parts.length cap2 := f9
    replace f10 : V 10 = .pointer (some ⟨b, off + 5, none⟩) := f10
    replace f11 : V 11 = .agg #[.int .i64 t.parts[1].op, .string t.parts[1].atom.name, .slice y1a t.parts[1].atom.args.length y1c, .string t.parts[1].v, .slice z1a t.parts[1].parts.length z1c] := f11
    replace f12 : V 12 = .string (bs x1) := f12
    replace f13 : V 13 = .string (bs l3) := f13
    replace f14 : V 14 = .string (bs l4) := f14
    replace f15 : V 15 = .string (bs l4) := f15
    simp only [f0, f1, f2, f3, f4, f5, f6, f7, f8, f9, f10, f11, f12, f13, f14, f15]
    clear f0 f1 f2 f3 f4 f5 f6 f7 f8 f9 f10 f11 f12 f13 f14 f15
    clear eT0 eT1 eT2 eT3 eT4 lT
    go_wp2_with fail
    go_ret
    exact Gives.mk (ret_str (by rw [HT.out])) (hW.trans (hbR.mono hW.size))
  by_cases o6 : t.op = 6
  · have s6 : (t.op == 6) = true := by simp [o6]
    have s7 : (t.op == 7) = false := by simp [o6]
    have Hsw : Hid (bs sg = ⟨#[32, 124, 32]⟩) := by rw [Hid, Hsg.out]; unfold signOf; simp [o6]; rfl
    clear o6 o7
    obtain ⟨rfl, rfl, ⟨a, cap, rfl⟩, rfl, a2, cap2, rfl⟩ := Fm.at_form hT
    have hW : Below w.heap.size w (w.alloc (.cells #[.int .i64 t.op, .string t.atom.name, .slice a t.atom.args.length cap, .string t.v, .slice a2 t.parts.length cap2] 61)) := (Below.refl _ _).alloc (Nat.le_refl _) _
    have bT : Box (w.alloc (.cells #[.int .i64 t.op, .string t.atom.name, .slice a t.atom.args.length cap, .string t.v, .slice a2 t.parts.length cap2] 61)) w.heap.size [.int .i64 t.op, .string t.atom.name, .slice a t.atom.args.length cap, .string t.v, .slice a2 t.parts.length cap2] := Box.new w _ _
    replace hT := Fm.at_keep (Keeps.all hW) hT
    go_enter Try.func73, Try.ntmps73
    go_wp2_with fail
    generalize (w.alloc (.cells #[.int .i64 t.op, .string t.atom.name, .slice a t.atom.args.length cap, .string t.v, .slice a2 t.parts.length cap2] 61)) = w0 at *
    have hl := HL.out
    have hne : t.parts ≠ [] := by intro e; rw [e] at hl; simp at hl
    have i0 : 0 < t.parts.length := by omega
    have j0 : (0 : Int) < t.parts.length := by omega
    have i1 : 1 < t.parts.length := by omega
    have j1 : (1 : Int) < t.parts.length := by omega
    clear hl
    obtain ⟨b, off, rfl, hS, hbl, hrr⟩ := Fm.sd_get (Fm.at_parts hT) hne
    obtain ⟨d00, d01, d02, d03, d04, p00, p01, p02, p03, p04, p0x⟩ := hrr 0 i0
    obtain ⟨rfl, rfl, ⟨y0a, y0c, rfl⟩, rfl, z0a, z0c, rfl⟩ := Fm.at_form p0x
    have hm0 := h t.parts[0] (List.getElem_mem i0)
    have hB0 : t.parts[0].bulk ≤ 1048576 := by have := Fm.bulk_mem (List.getElem_mem i0); have := Fm.bulk_eq t; omega
    have hF0 := hfp _ (List.getElem_mem i0)
    obtain ⟨d10, d11, d12, d13, d14, p10, p11, p12, p13, p14, p1x⟩ := hrr 1 i1
    obtain ⟨rfl, rfl, ⟨y1a, y1c, rfl⟩, rfl, z1a, z1c, rfl⟩ := Fm.at_form p1x
    have hm1 := h t.parts[1] (List.getElem_mem i1)
    have hB1 : t.parts[1].bulk ≤ 1048576 := by have := Fm.bulk_mem (List.getElem_mem i1); have := Fm.bulk_eq t; omega
    have hF1 := hfp _ (List.getElem_mem i1)
    clear hrr
    simp only [Nat.zero_mul, Nat.add_zero, Nat.one_mul] at p00 p01 p02 p03 p04 p10 p11 p12 p13 p14
    have eT0 := bT.c0
    have eT1 := bT.c1
    have eT2 := bT.c2
    have eT3 := bT.c3
    have eT4 := bT.c4
    have lT := bT.lt
    go_wp2_with fail
    rw [← Hsw.out]
    refine wp_region_B [fun v _ => v = .pointer (some ⟨w.heap.size, 4, none⟩), fun v _ => v = .slice (some ⟨b, off, none⟩) t.parts.length cap2, fun v _ => v = .pointer (some ⟨b, off, none⟩), fun v _ => v = .agg #[.int .i64 t.parts[0].op, .string t.parts[0].atom.name, .slice y0a t.parts[0].atom.args.length y0c, .string t.parts[0].v, .slice z0a t.parts[0].parts.length z0c], fun v _ => v = .string (bs x0), fun v _ => v = .string (bs l1), fun v _ => v = .string (bs sg), fun v _ => v = .string (bs l2), fun v _ => v = .pointer (some ⟨w.heap.size, 4, none⟩), fun v _ => v = .slice (some ⟨b, off, none⟩) t.parts.length cap2, fun v _ => v = .pointer (some ⟨b, off + 5, none⟩), fun v _ => v = .agg #[.int .i64 t.parts[1].op, .string t.parts[1].atom.name, .slice y1a t.parts[1].atom.args.length y1c, .string t.parts[1].v, .slice z1a t.parts[1].parts.length z1c], fun v _ => v = .string (bs x1), fun v _ => v = .string (bs l3), fun v _ => v = .string (bs l4), fun v _ => v = .string (bs l4)] _ (fun V => by simp [putAll, Act.put]; rfl) (by kernel_rfl) (by decide) (by simp) (by kernel_rfl) ?_ ?_ ?_
    · intro F hF
      simp only [List.mem_cons, List.not_mem_nil, or_false] at hF
      rcases hF with rfl | rfl | rfl | rfl | rfl | rfl | rfl | rfl | rfl | rfl | rfl | rfl | rfl | rfl | rfl | rfl
      · exact stable_eq
      · exact stable_eq
      · exact stable_eq
      · exact stable_eq
      · exact stable_eq
      · exact stable_eq
      · exact stable_eq
      · exact stable_eq
      · exact stable_eq
      · exact stable_eq
      · exact stable_eq
      · exact stable_eq
      · exact stable_eq
      · exact stable_eq
      · exact stable_eq
      · exact stable_eq
    · refine ⟨?_, ?_, ?_, ?_, ?_, ?_, ?_, ?_, ?_, ?_, ?_, ?_, ?_, ?_, ?_, ?_, trivial⟩
      · intro V w1 hbR _
        unfold Does
        go_simp
        exact ⟨Below.refl _ _, rfl⟩
      · intro V w1 hbR ⟨f0, _⟩
        replace f0 : V 0 = .pointer (some ⟨w.heap.size, 4, none⟩) := f0
        obtain ⟨hc, hf⟩ := bcell hbR
        try simp only [World.size_alloc, World.size_setCell] at hc hf
        unfold Does
        go_simp
        exact ⟨Below.refl _ _, rfl⟩
      · intro V w1 hbR ⟨f1, _⟩
        replace f1 : V 1 = .slice (some ⟨b, off, none⟩) t.parts.length cap2 := f1
        unfold Does
        go_simp
        exact ⟨Below.refl _ _, rfl⟩
      · intro V w1 hbR ⟨f2, _⟩
        replace f2 : V 2 = .pointer (some ⟨b, off, none⟩) := f2
        obtain ⟨hc, hf⟩ := bcell hbR
        try simp only [World.size_alloc, World.size_setCell] at hc hf
        unfold Does
        go_simp
        exact ⟨Below.refl _ _, rfl⟩
      · intro V w1 hbR ⟨f3, _⟩
        replace f3 : V 3 = .agg #[.int .i64 t.parts[0].op, .string t.parts[0].atom.name, .slice y0a t.parts[0].atom.args.length y0c, .string t.parts[0].v, .slice z0a t.parts[0].parts.length z0c] := f3
        obtain ⟨hc, hf⟩ := bcell hbR
        try simp only [World.size_alloc, World.size_setCell] at hc hf
        unfold Does
        go_simp
        have hq := hm0 (Fm.at_keep (Keeps.all hbR) p0x) hB0 hF0; rw [← Hx0.out] at hq; exact hq
      · intro V w1 hbR ⟨f4, _⟩
        replace f4 : V 4 = .string (bs x0) := f4
        unfold Does
        go_simp
        exact ⟨Below.refl _ _, congrArg Value.string (by rw [H1.out, bs_mk #[40], bs_append])⟩
      · intro V w1 hbR _
        unfold Does
        go_simp
        exact ⟨Below.refl _ _, rfl⟩
      · intro V w1 hbR ⟨f5, f6, _⟩
        replace f5 : V 5 = .string (bs l1) := f5
        replace f6 : V 6 = .string (bs sg) := f6
        unfold Does
        go_simp
        exact ⟨Below.refl _ _, congrArg Value.string (by rw [H2.out, bs_append])⟩
      · intro V w1 hbR _
        unfold Does
        go_simp
        exact ⟨Below.refl _ _, rfl⟩
      · intro V w1 hbR ⟨f8, _⟩
        replace f8 : V 8 = .pointer (some ⟨w.heap.size, 4, none⟩) := f8
        obtain ⟨hc, hf⟩ := bcell hbR
        try simp only [World.size_alloc, World.size_setCell] at hc hf
        unfold Does
        go_simp
        exact ⟨Below.refl _ _, rfl⟩
      · intro V w1 hbR ⟨f9, _⟩
        replace f9 : V 9 = .slice (some ⟨b, off, none⟩) t.parts.length cap2 := f9
        unfold Does
        go_simp
        exact ⟨Below.refl _ _, rfl⟩
      · intro V w1 hbR ⟨f10, _⟩
        replace f10 : V 10 = .pointer (some ⟨b, off + 5, none⟩) := f10
        obtain ⟨hc, hf⟩ := bcell hbR
        try simp only [World.size_alloc, World.size_setCell] at hc hf
        unfold Does
        go_simp
        exact ⟨Below.refl _ _, rfl⟩
      · intro V w1 hbR ⟨f11, f4, _⟩
        replace f4 : V 4 = .string (bs x0) := f4
        replace f11 : V 11 = .agg #[.int .i64 t.parts[1].op, .string t.parts[1].atom.name, .slice y1a t.parts[1].atom.args.length y1c, .string t.parts[1].v, .slice z1a t.parts[1].parts.length z1c] := f11
        obtain ⟨hc, hf⟩ := bcell hbR
        try simp only [World.size_alloc, World.size_setCell] at hc hf
        unfold Does
        go_simp
        have hq := hm1 (Fm.at_keep (Keeps.all hbR) p1x) hB1 hF1; rw [← Hx1.out] at hq; exact hq
      · intro V w1 hbR ⟨f7, f12, _⟩
        replace f7 : V 7 = .string (bs l2) := f7
        replace f12 : V 12 = .string (bs x1) := f12
        unfold Does
        go_simp
        exact ⟨Below.refl _ _, congrArg Value.string (by rw [H3.out, bs_append])⟩
      · intro V w1 hbR ⟨f13, _⟩
        replace f13 : V 13 = .string (bs l3) := f13
        unfold Does
        go_simp
        exact ⟨Below.refl _ _, congrArg Value.string (by rw [H4.out, bs_mk #[41], bs_append])⟩
      · intro V w1 hbR ⟨f14, f12, f0, f1, f2, f3, f4, f5, f6, f7, f8, f9, f10, f11, _, f13, _, _⟩
        replace f0 : V 0 = .pointer (some ⟨w.heap.size, 4, none⟩) := f0
        replace f1 : V 1 = .slice (some ⟨b, off, none⟩) t.parts.length cap2 := f1
        replace f2 : V 2 = .pointer (some ⟨b, off, none⟩) := f2
        replace f3 : V 3 = .agg #[.int .i64 t.parts[0].op, .string t.parts[0].atom.name, .slice y0a t.parts[0].atom.args.length y0c, .string t.parts[0].v, .slice z0a t.parts[0].parts.length z0c] := f3
        replace f4 : V 4 = .string (bs x0) := f4
        replace f5 : V 5 = .string (bs l1) := f5
        replace f6 : V 6 = .string (bs sg) := f6
        replace f7 : V 7 = .string (bs l2) := f7
        replace f8 : V 8 = .pointer (some ⟨w.heap.size, 4, none⟩) := f8
        replace f9 : V 9 = .slice (some ⟨b, off, none⟩) t.parts.length cap2 := f9
        replace f10 : V 10 = .pointer (some ⟨b, off + 5, none⟩) := f10
        replace f11 : V 11 = .agg #[.int .i64 t.parts[1].op, .string t.parts[1].atom.name, .slice y1a t.parts[1].atom.args.length y1c, .string t.parts[1].v, .slice z1a t.parts[1].parts.length z1c] := f11
        replace f12 : V 12 = .string (bs x1) := f12
        replace f13 : V 13 = .string (bs l3) := f13
        replace f14 : V 14 = .string (bs l4) := f14
        unfold Does
        go_simp
        exact ⟨Below.refl _ _, rfl⟩
    intro V w3 hbR hfR
    obtain ⟨f0, f1, f2, f3, f4, f5, f6, f7, f8, f9, f10, f11, f12, f13, f14, f15, _⟩ := hfR
    replace f0 : V 0 = .pointer (some ⟨w.heap.size, 4, none⟩) := f0
    replace f1 : V 1 = .slice (some ⟨b, off, none⟩) t.parts.length cap2 := f1
    replace f2 : V 2 = .pointer (some ⟨b, off, none⟩) := f2
    replace f3 : V 3 = .agg #[.int .i64 t.parts[0].op, .string t.parts[0].atom.name, .slice y0a t.parts[0].atom.args.length y0c, .string t.parts[0].v, .slice z0a t.parts[0].parts.length z0c] := f3
    replace f4 : V 4 = .string (bs x0) := f4
    replace f5 : V 5 = .string (bs l1) := f5
    replace f6 : V 6 = .string (bs sg) := f6
    replace f7 : V 7 = .string (bs l2) := f7
    replace f8 : V 8 = .pointer (some ⟨w.heap.size, 4, none⟩) := f8
    replace f9 : V 9 = .slice (some ⟨b, off, none⟩) t.parts.length cap2 := f9
    replace f10 : V 10 = .pointer (some ⟨b, off + 5, none⟩) := f10
    replace f11 : V 11 = .agg #[.int .i64 t.parts[1].op, .string t.parts[1].atom.name, .slice y1a t.parts[1].atom.args.length y1c, .string t.parts[1].v, .slice z1a t.parts[1].parts.length z1c] := f11
    replace f12 : V 12 = .string (bs x1) := f12
    replace f13 : V 13 = .string (bs l3) := f13
    replace f14 : V 14 = .string (bs l4) := f14
    replace f15 : V 15 = .string (bs l4) := f15
    simp only [f0, f1, f2, f3, f4, f5, f6, f7, f8, f9, f10, f11, f12, f13, f14, f15]
    clear f0 f1 f2 f3 f4 f5 f6 f7 f8 f9 f10 f11 f12 f13 f14 f15
    clear eT0 eT1 eT2 eT3 eT4 lT
    go_wp2_with fail
    go_ret
    exact Gives.mk (ret_str (by rw [HT.out])) (hW.trans (hbR.mono hW.size))
  have s6 : (t.op == 6) = false := by simp [o6]
  have s7 : (t.op == 7) = false := by simp [o7]
  have Hsw : Hid (bs sg = ⟨#[32, 38, 32]⟩) := by rw [Hid, Hsg.out]; unfold signOf; simp [o6, o7]; rfl
  clear o6 o7
  obtain ⟨rfl, rfl, ⟨a, cap, rfl⟩, rfl, a2, cap2, rfl⟩ := Fm.at_form hT
  have hW : Below w.heap.size w (w.alloc (.cells #[.int .i64 t.op, .string t.atom.name, .slice a t.atom.args.length cap, .string t.v, .slice a2 t.parts.length cap2] 61)) := (Below.refl _ _).alloc (Nat.le_refl _) _
  have bT : Box (w.alloc (.cells #[.int .i64 t.op, .string t.atom.name, .slice a t.atom.args.length cap, .string t.v, .slice a2 t.parts.length cap2] 61)) w.heap.size [.int .i64 t.op, .string t.atom.name, .slice a t.atom.args.length cap, .string t.v, .slice a2 t.parts.length cap2] := Box.new w _ _
  replace hT := Fm.at_keep (Keeps.all hW) hT
  go_enter Try.func73, Try.ntmps73
  go_wp2_with fail
  generalize (w.alloc (.cells #[.int .i64 t.op, .string t.atom.name, .slice a t.atom.args.length cap, .string t.v, .slice a2 t.parts.length cap2] 61)) = w0 at *
  have hl := HL.out
  have hne : t.parts ≠ [] := by intro e; rw [e] at hl; simp at hl
  have i0 : 0 < t.parts.length := by omega
  have j0 : (0 : Int) < t.parts.length := by omega
  have i1 : 1 < t.parts.length := by omega
  have j1 : (1 : Int) < t.parts.length := by omega
  clear hl
  obtain ⟨b, off, rfl, hS, hbl, hrr⟩ := Fm.sd_get (Fm.at_parts hT) hne
  obtain ⟨d00, d01, d02, d03, d04, p00, p01, p02, p03, p04, p0x⟩ := hrr 0 i0
  obtain ⟨rfl, rfl, ⟨y0a, y0c, rfl⟩, rfl, z0a, z0c, rfl⟩ := Fm.at_form p0x
  have hm0 := h t.parts[0] (List.getElem_mem i0)
  have hB0 : t.parts[0].bulk ≤ 1048576 := by have := Fm.bulk_mem (List.getElem_mem i0); have := Fm.bulk_eq t; omega
  have hF0 := hfp _ (List.getElem_mem i0)
  obtain ⟨d10, d11, d12, d13, d14, p10, p11, p12, p13, p14, p1x⟩ := hrr 1 i1
  obtain ⟨rfl, rfl, ⟨y1a, y1c, rfl⟩, rfl, z1a, z1c, rfl⟩ := Fm.at_form p1x
  have hm1 := h t.parts[1] (List.getElem_mem i1)
  have hB1 : t.parts[1].bulk ≤ 1048576 := by have := Fm.bulk_mem (List.getElem_mem i1); have := Fm.bulk_eq t; omega
  have hF1 := hfp _ (List.getElem_mem i1)
  clear hrr
  simp only [Nat.zero_mul, Nat.add_zero, Nat.one_mul] at p00 p01 p02 p03 p04 p10 p11 p12 p13 p14
  have eT0 := bT.c0
  have eT1 := bT.c1
  have eT2 := bT.c2
  have eT3 := bT.c3
  have eT4 := bT.c4
  have lT := bT.lt
  go_wp2_with fail
  rw [← Hsw.out]
  refine wp_region_B [fun v _ => v = .pointer (some ⟨w.heap.size, 4, none⟩), fun v _ => v = .slice (some ⟨b, off, none⟩) t.parts.length cap2, fun v _ => v = .pointer (some ⟨b, off, none⟩), fun v _ => v = .agg #[.int .i64 t.parts[0].op, .string t.parts[0].atom.name, .slice y0a t.parts[0].atom.args.length y0c, .string t.parts[0].v, .slice z0a t.parts[0].parts.length z0c], fun v _ => v = .string (bs x0), fun v _ => v = .string (bs l1), fun v _ => v = .string (bs sg), fun v _ => v = .string (bs l2), fun v _ => v = .pointer (some ⟨w.heap.size, 4, none⟩), fun v _ => v = .slice (some ⟨b, off, none⟩) t.parts.length cap2, fun v _ => v = .pointer (some ⟨b, off + 5, none⟩), fun v _ => v = .agg #[.int .i64 t.parts[1].op, .string t.parts[1].atom.name, .slice y1a t.parts[1].atom.args.length y1c, .string t.parts[1].v, .slice z1a t.parts[1].parts.length z1c], fun v _ => v = .string (bs x1), fun v _ => v = .string (bs l3), fun v _ => v = .string (bs l4), fun v _ => v = .string (bs l4)] _ (fun V => by simp [putAll, Act.put]; rfl) (by kernel_rfl) (by decide) (by simp) (by kernel_rfl) ?_ ?_ ?_
  · intro F hF
    simp only [List.mem_cons, List.not_mem_nil, or_false] at hF
    rcases hF with rfl | rfl | rfl | rfl | rfl | rfl | rfl | rfl | rfl | rfl | rfl | rfl | rfl | rfl | rfl | rfl
    · exact stable_eq
    · exact stable_eq
    · exact stable_eq
    · exact stable_eq
    · exact stable_eq
    · exact stable_eq
    · exact stable_eq
    · exact stable_eq
    · exact stable_eq
    · exact stable_eq
    · exact stable_eq
    · exact stable_eq
    · exact stable_eq
    · exact stable_eq
    · exact stable_eq
    · exact stable_eq
  · refine ⟨?_, ?_, ?_, ?_, ?_, ?_, ?_, ?_, ?_, ?_, ?_, ?_, ?_, ?_, ?_, ?_, trivial⟩
    · intro V w1 hbR _
      unfold Does
      go_simp
      exact ⟨Below.refl _ _, rfl⟩
    · intro V w1 hbR ⟨f0, _⟩
      replace f0 : V 0 = .pointer (some ⟨w.heap.size, 4, none⟩) := f0
      obtain ⟨hc, hf⟩ := bcell hbR
      try simp only [World.size_alloc, World.size_setCell] at hc hf
      unfold Does
      go_simp
      exact ⟨Below.refl _ _, rfl⟩
    · intro V w1 hbR ⟨f1, _⟩
      replace f1 : V 1 = .slice (some ⟨b, off, none⟩) t.parts.length cap2 := f1
      unfold Does
      go_simp
      exact ⟨Below.refl _ _, rfl⟩
    · intro V w1 hbR ⟨f2, _⟩
      replace f2 : V 2 = .pointer (some ⟨b, off, none⟩) := f2
      obtain ⟨hc, hf⟩ := bcell hbR
      try simp only [World.size_alloc, World.size_setCell] at hc hf
      unfold Does
      go_simp
      exact ⟨Below.refl _ _, rfl⟩
    · intro V w1 hbR ⟨f3, _⟩
      replace f3 : V 3 = .agg #[.int .i64 t.parts[0].op, .string t.parts[0].atom.name, .slice y0a t.parts[0].atom.args.length y0c, .string t.parts[0].v, .slice z0a t.parts[0].parts.length z0c] := f3
      obtain ⟨hc, hf⟩ := bcell hbR
      try simp only [World.size_alloc, World.size_setCell] at hc hf
      unfold Does
      go_simp
      have hq := hm0 (Fm.at_keep (Keeps.all hbR) p0x) hB0 hF0; rw [← Hx0.out] at hq; exact hq
    · intro V w1 hbR ⟨f4, _⟩
      replace f4 : V 4 = .string (bs x0) := f4
      unfold Does
      go_simp
      exact ⟨Below.refl _ _, congrArg Value.string (by rw [H1.out, bs_mk #[40], bs_append])⟩
    · intro V w1 hbR _
      unfold Does
      go_simp
      exact ⟨Below.refl _ _, rfl⟩
    · intro V w1 hbR ⟨f5, f6, _⟩
      replace f5 : V 5 = .string (bs l1) := f5
      replace f6 : V 6 = .string (bs sg) := f6
      unfold Does
      go_simp
      exact ⟨Below.refl _ _, congrArg Value.string (by rw [H2.out, bs_append])⟩
    · intro V w1 hbR _
      unfold Does
      go_simp
      exact ⟨Below.refl _ _, rfl⟩
    · intro V w1 hbR ⟨f8, _⟩
      replace f8 : V 8 = .pointer (some ⟨w.heap.size, 4, none⟩) := f8
      obtain ⟨hc, hf⟩ := bcell hbR
      try simp only [World.size_alloc, World.size_setCell] at hc hf
      unfold Does
      go_simp
      exact ⟨Below.refl _ _, rfl⟩
    · intro V w1 hbR ⟨f9, _⟩
      replace f9 : V 9 = .slice (some ⟨b, off, none⟩) t.parts.length cap2 := f9
      unfold Does
      go_simp
      exact ⟨Below.refl _ _, rfl⟩
    · intro V w1 hbR ⟨f10, _⟩
      replace f10 : V 10 = .pointer (some ⟨b, off + 5, none⟩) := f10
      obtain ⟨hc, hf⟩ := bcell hbR
      try simp only [World.size_alloc, World.size_setCell] at hc hf
      unfold Does
      go_simp
      exact ⟨Below.refl _ _, rfl⟩
    · intro V w1 hbR ⟨f11, f4, _⟩
      replace f4 : V 4 = .string (bs x0) := f4
      replace f11 : V 11 = .agg #[.int .i64 t.parts[1].op, .string t.parts[1].atom.name, .slice y1a t.parts[1].atom.args.length y1c, .string t.parts[1].v, .slice z1a t.parts[1].parts.length z1c] := f11
      obtain ⟨hc, hf⟩ := bcell hbR
      try simp only [World.size_alloc, World.size_setCell] at hc hf
      unfold Does
      go_simp
      have hq := hm1 (Fm.at_keep (Keeps.all hbR) p1x) hB1 hF1; rw [← Hx1.out] at hq; exact hq
    · intro V w1 hbR ⟨f7, f12, _⟩
      replace f7 : V 7 = .string (bs l2) := f7
      replace f12 : V 12 = .string (bs x1) := f12
      unfold Does
      go_simp
      exact ⟨Below.refl _ _, congrArg Value.string (by rw [H3.out, bs_append])⟩
    · intro V w1 hbR ⟨f13, _⟩
      replace f13 : V 13 = .string (bs l3) := f13
      unfold Does
      go_simp
      exact ⟨Below.refl _ _, congrArg Value.string (by rw [H4.out, bs_mk #[41], bs_append])⟩
    · intro V w1 hbR ⟨f14, f12, f0, f1, f2, f3, f4, f5, f6, f7, f8, f9, f10, f11, _, f13, _, _⟩
      replace f0 : V 0 = .pointer (some ⟨w.heap.size, 4, none⟩) := f0
      replace f1 : V 1 = .slice (some ⟨b, off, none⟩) t.parts.length cap2 := f1
      replace f2 : V 2 = .pointer (some ⟨b, off, none⟩) := f2
      replace f3 : V 3 = .agg #[.int .i64 t.parts[0].op, .string t.parts[0].atom.name, .slice y0a t.parts[0].atom.args.length y0c, .string t.parts[0].v, .slice z0a t.parts[0].parts.length z0c] := f3
      replace f4 : V 4 = .string (bs x0) := f4
      replace f5 : V 5 = .string (bs l1) := f5
      replace f6 : V 6 = .string (bs sg) := f6
      replace f7 : V 7 = .string (bs l2) := f7
      replace f8 : V 8 = .pointer (some ⟨w.heap.size, 4, none⟩) := f8
      replace f9 : V 9 = .slice (some ⟨b, off, none⟩) t.parts.length cap2 := f9
      replace f10 : V 10 = .pointer (some ⟨b, off + 5, none⟩) := f10
      replace f11 : V 11 = .agg #[.int .i64 t.parts[1].op, .string t.parts[1].atom.name, .slice y1a t.parts[1].atom.args.length y1c, .string t.parts[1].v, .slice z1a t.parts[1].parts.length z1c] := f11
      replace f12 : V 12 = .string (bs x1) := f12
      replace f13 : V 13 = .string (bs l3) := f13
      replace f14 : V 14 = .string (bs l4) := f14
      unfold Does
      go_simp
      exact ⟨Below.refl _ _, rfl⟩
  intro V w3 hbR hfR
  obtain ⟨f0, f1, f2, f3, f4, f5, f6, f7, f8, f9, f10, f11, f12, f13, f14, f15, _⟩ := hfR
  replace f0 : V 0 = .pointer (some ⟨w.heap.size, 4, none⟩) := f0
  replace f1 : V 1 = .slice (some ⟨b, off, none⟩) t.parts.length cap2 := f1
  replace f2 : V 2 = .pointer (some ⟨b, off, none⟩) := f2
  replace f3 : V 3 = .agg #[.int .i64 t.parts[0].op, .string t.parts[0].atom.name, .slice y0a t.parts[0].atom.args.length y0c, .string t.parts[0].v, .slice z0a t.parts[0].parts.length z0c] := f3
  replace f4 : V 4 = .string (bs x0) := f4
  replace f5 : V 5 = .string (bs l1) := f5
  replace f6 : V 6 = .string (bs sg) := f6
  replace f7 : V 7 = .string (bs l2) := f7
  replace f8 : V 8 = .pointer (some ⟨w.heap.size, 4, none⟩) := f8
  replace f9 : V 9 = .slice (some ⟨b, off, none⟩) t.parts.length cap2 := f9
  replace f10 : V 10 = .pointer (some ⟨b, off + 5, none⟩) := f10
  replace f11 : V 11 = .agg #[.int .i64 t.parts[1].op, .string t.parts[1].atom.name, .slice y1a t.parts[1].atom.args.length y1c, .string t.parts[1].v, .slice z1a t.parts[1].parts.length z1c] := f11
  replace f12 : V 12 = .string (bs x1) := f12
  replace f13 : V 13 = .string (bs l3) := f13
  replace f14 : V 14 = .string (bs l4) := f14
  replace f15 : V 15 = .string (bs l4) := f15
  simp only [f0, f1, f2, f3, f4, f5, f6, f7, f8, f9, f10, f11, f12, f13, f14, f15]
  clear f0 f1 f2 f3 f4 f5 f6 f7 f8 f9 f10 f11 f12 f13 f14 f15
  clear eT0 eT1 eT2 eT3 eT4 lT
  go_wp2_with fail
  go_ret
  exact Gives.mk (ret_str (by rw [HT.out])) (hW.trans (hbR.mono hW.size))
theorem l8Text_any (t : Fm) : FTextIs 73 t := Fm.ind (P := FTextIs 73) (fun o a v ps h => l8Text_of (.node o a v ps) h) t
end Go.Proofs.Ytiifibmahomdhaa
