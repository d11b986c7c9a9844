/- The forms of formulas: the walks. -/
import Derived.Test.YthpookgpmnbilaaFs
import Derived.Test.YthpookgpmnbilaaTv
namespace Go.Proofs.Ythpookgpmnbilaa
set_option maxRecDepth 100000
open Go.RowKit

theorem isQuantifier_any (o : Int) (w : World) : Calls Try.prog 51 #[.int .i64 o] w fun e w' => e = .returned (.bool (quantOp o)) ∧ w = w' := by
  by_cases h8 : o = 8
  · subst h8
    go_enter Try.func51, Try.ntmps51
    go_wp2
    go_ret
    exact ⟨rfl, rfl⟩
  · have e8 : (o == 8) = false := by simp [h8]
    have HQ : Hid (quantOp o = (o == 9)) := by simp [Hid, quantOp, h8]; rfl
    clear h8
    go_enter Try.func51, Try.ntmps51
    go_wp2
    go_ret
    exact ⟨ret_bool HQ.out.symm, rfl⟩
theorem isBinary_any (o : Int) (w : World) : Calls Try.prog 70 #[.int .i64 o] w fun e w' => e = .returned (.bool (binOp o)) ∧ w = w' := by
  by_cases h5 : o = 5
  · subst h5
    go_enter Try.func70, Try.ntmps70
    go_wp2
    go_ret
    exact ⟨rfl, rfl⟩
  · have e5 : (o == 5) = false := by simp [h5]
    by_cases h6 : o = 6
    · subst h6
      go_enter Try.func70, Try.ntmps70
      go_wp2
      go_ret
      exact ⟨rfl, rfl⟩
    · have e6 : (o == 6) = false := by simp [h6]
      have HQ : Hid (binOp o = (o == 7)) := by simp [Hid, binOp, h5, h6]; rfl
      clear h5 h6
      go_enter Try.func70, Try.ntmps70
      go_wp2
      go_ret
      exact ⟨ret_bool HQ.out.symm, rfl⟩

theorem toList_nil {s : ByteArray} (h : s = ⟨#[]⟩) : (s.toList == []) = true := by
  subst h; rw [ByteArray.toList_eq]; rfl
theorem toList_cons {s : ByteArray} (h : ¬ s = ⟨#[]⟩) : (s.toList == []) = false := by
  have := toList_ne h
  rwa [ByteArray.toList_eq ⟨#[]⟩] at this

set_option maxHeartbeats 1000000 in
theorem isZeroTerm_any (t : Tm) : PredIs 72 Tm.none t := by
  intro S c0 c1 w hT hbk
  by_cases hn : t.name = ⟨#[]⟩
  · have hq := toList_nil hn
    have HN : Hid (t.none = decide (t.args.length = 0)) := by simp [Hid, Tm.none, hn]
    clear hn
    obtain ⟨rfl, hn, a, cap, rfl⟩ := Tm.at_form hT
    have hW : Below w.heap.size w (w.alloc (.cells #[.string t.name, .slice a t.args.length cap] 33)) := (Below.refl _ _).alloc (Nat.le_refl _) _
    have bT : Box (w.alloc (.cells #[.string t.name, .slice a t.args.length cap] 33)) w.heap.size [.string t.name, .slice a t.args.length cap] := Box.new w _ _
    replace hT := Tm.at_keep (Keeps.all hW) hT
    go_enter Try.func72, Try.ntmps72
    go_wp2_with fail
    generalize (w.alloc (.cells #[.string t.name, .slice a t.args.length cap] 33)) = w0 at *
    go_ret
    exact Gives.mk (ret_bool (by rw [HN.out, Bool.eq_iff_iff]; simp only [beq_iff_eq, decide_eq_true_eq]; omega)) hW
  · have hq := toList_cons hn
    have HN : Hid (t.none = false) := by simp [Hid, Tm.none, hn]
    clear hn
    obtain ⟨rfl, hn, a, cap, rfl⟩ := Tm.at_form hT
    have hW : Below w.heap.size w (w.alloc (.cells #[.string t.name, .slice a t.args.length cap] 33)) := (Below.refl _ _).alloc (Nat.le_refl _) _
    have bT : Box (w.alloc (.cells #[.string t.name, .slice a t.args.length cap] 33)) w.heap.size [.string t.name, .slice a t.args.length cap] := Box.new w _ _
    replace hT := Tm.at_keep (Keeps.all hW) hT
    go_enter Try.func72, Try.ntmps72
    go_wp2_with fail
    generalize (w.alloc (.cells #[.string t.name, .slice a t.args.length cap] 33)) = w0 at *
    go_ret
    exact Gives.mk (ret_bool HN.out.symm) hW
set_option maxHeartbeats 1000000 in
theorem l8None_any (t : Tm) : PredIs 94 Tm.none t := by
  intro S c0 c1 w hT hbk
  by_cases hn : t.name = ⟨#[]⟩
  · have hq := toList_nil hn
    have HN : Hid (t.none = decide (t.args.length = 0)) := by simp [Hid, Tm.none, hn]
    clear hn
    obtain ⟨rfl, hn, a, cap, rfl⟩ := Tm.at_form hT
    have hW : Below w.heap.size w (w.alloc (.cells #[.string t.name, .slice a t.args.length cap] 33)) := (Below.refl _ _).alloc (Nat.le_refl _) _
    have bT : Box (w.alloc (.cells #[.string t.name, .slice a t.args.length cap] 33)) w.heap.size [.string t.name, .slice a t.args.length cap] := Box.new w _ _
    replace hT := Tm.at_keep (Keeps.all hW) hT
    go_enter Try.func94, Try.ntmps94
    go_wp2_with fail
    generalize (w.alloc (.cells #[.string t.name, .slice a t.args.length cap] 33)) = w0 at *
    go_ret
    exact Gives.mk (ret_bool (by rw [HN.out, Bool.eq_iff_iff]; simp only [beq_iff_eq, decide_eq_true_eq]; omega)) hW
  · have hq := toList_cons hn
    have HN : Hid (t.none = false) := by simp [Hid, Tm.none, hn]
    clear hn
    obtain ⟨rfl, hn, a, cap, rfl⟩ := Tm.at_form hT
    have hW : Below w.heap.size w (w.alloc (.cells #[.string t.name, .slice a t.args.length cap] 33)) := (Below.refl _ _).alloc (Nat.le_refl _) _
    have bT : Box (w.alloc (.cells #[.string t.name, .slice a t.args.length cap] 33)) w.heap.size [.string t.name, .slice a t.args.length cap] := Box.new w _ _
    replace hT := Tm.at_keep (Keeps.all hW) hT
    go_enter Try.func94, Try.ntmps94
    go_wp2_with fail
    generalize (w.alloc (.cells #[.string t.name, .slice a t.args.length cap] 33)) = w0 at *
    go_ret
    exact Gives.mk (ret_bool HN.out.symm) hW

theorem toListNil (s : ByteArray) : (s.toList == []) = decide (s = ⟨#[]⟩) := by
  by_cases h : s = ⟨#[]⟩
  · rw [toList_nil h]; simp [h]
  · rw [toList_cons h]; simp [h]

theorem toListEmpty (s : ByteArray) : s.toList.isEmpty = decide (s = ⟨#[]⟩) := by
  rw [← toListNil]; cases s.toList <;> rfl
theorem toList_emp {s : ByteArray} (h : s = ⟨#[]⟩) : s.toList.isEmpty = true := by rw [toListEmpty]; simp [h]
theorem toList_nemp {s : ByteArray} (h : ¬ s = ⟨#[]⟩) : s.toList.isEmpty = false := by rw [toListEmpty]; simp [h]
theorem Fm.form_1 {t : Fm} (h : t.op = 1) : t.form = (decide (t.parts.length = 0) && t.atom.none && decide (t.v = ⟨#[]⟩)) := by
  simp [Fm.form, h, arity, quantOp, eq_comm]
theorem Fm.form_2 {t : Fm} (h : t.op = 2) : t.form = (decide (t.parts.length = 0) && t.atom.none && decide (t.v = ⟨#[]⟩)) := by
  simp [Fm.form, h, arity, quantOp, eq_comm]
theorem Fm.form_3 {t : Fm} (h : t.op = 3) : t.form = (decide (t.parts.length = 0) && t.atom.atom && decide (t.v = ⟨#[]⟩)) := by
  simp [Fm.form, h, arity, quantOp, eq_comm]
theorem Fm.form_4 {t : Fm} (h : t.op = 4) : t.form = (decide (t.parts.length = 1) && t.atom.none && decide (t.v = ⟨#[]⟩)) := by
  simp [Fm.form, h, arity, quantOp, eq_comm]
theorem Fm.form_5 {t : Fm} (h : t.op = 5) : t.form = (decide (t.parts.length = 2) && t.atom.none && decide (t.v = ⟨#[]⟩)) := by
  simp [Fm.form, h, arity, quantOp, binOp, eq_comm]
theorem Fm.form_6 {t : Fm} (h : t.op = 6) : t.form = (decide (t.parts.length = 2) && t.atom.none && decide (t.v = ⟨#[]⟩)) := by
  simp [Fm.form, h, arity, quantOp, binOp, eq_comm]
theorem Fm.form_7 {t : Fm} (h : t.op = 7) : t.form = (decide (t.parts.length = 2) && t.atom.none && decide (t.v = ⟨#[]⟩)) := by
  simp [Fm.form, h, arity, quantOp, binOp, eq_comm]
theorem Fm.form_8 {t : Fm} (h : t.op = 8) : t.form = (decide (t.parts.length = 1) && t.atom.none && varName t.v) := by
  simp [Fm.form, h, arity, quantOp, eq_comm]
theorem Fm.form_9 {t : Fm} (h : t.op = 9) : t.form = (decide (t.parts.length = 1) && t.atom.none && varName t.v) := by
  simp [Fm.form, h, arity, quantOp, eq_comm]
theorem Fm.form_none {t : Fm} (h1 : ¬ t.op = 1) (h2 : ¬ t.op = 2) (h3 : ¬ t.op = 3) (h4 : ¬ t.op = 4) (h5 : ¬ t.op = 5) (h6 : ¬ t.op = 6) (h7 : ¬ t.op = 7) (h8 : ¬ t.op = 8) (h9 : ¬ t.op = 9) : t.form = false := by
  simp [Fm.form, arity, quantOp, binOp, h1, h2, h3, h4, h5, h6, h7, h8, h9]

def PredF (f : FuncId) (p : Fm → Bool) (t : Fm) : Prop := ∀ ⦃S : Nat → Prop⦄ ⦃c0 c1 c2 c3 c4 : Value⦄ ⦃w : World⦄, Fm.at S w c0 c1 c2 c3 c4 t → t.bulk ≤ 1048576 → Calls Try.prog f #[.agg #[c0, c1, c2, c3, c4]] w (Gives w (.bool (p t)))

set_option maxHeartbeats 2000000 in
theorem l8Form_any (t : Fm) : PredF 68 Fm.form t := by
  intro S c0 c1 c2 c3 c4 w hT hbk
  have hbA : t.atom.bulk ≤ 1048576 := by have := Fm.bulk_eq t; omega
  have hlen : t.parts.length ≤ 1048576 := by have := Fm.bulk_eq t; omega
  by_cases o1 : t.op = 1
  · have HF : Hid (t.form = (decide (t.parts.length = 0) && t.atom.none && decide (t.v = ⟨#[]⟩))) := by rw [Hid, Fm.form_1 o1]
    have s1 : (t.op == 1) = true := by simp [o1]
    clear o1
    by_cases hl : t.parts.length = 0
    · have hl2 : ((t.parts.length : Int) == 0) = true := by rw [beq_iff_eq]; omega
      by_cases ha : t.atom.none = true
      · have HG : Hid (t.form = decide (t.v = ⟨#[]⟩)) := by rw [Hid, HF.out, ha]; simp [hl]
        clear hl
        obtain ⟨rfl, rfl, ⟨a, cap, rfl⟩, rfl, a2, cap2, rfl⟩ := Fm.at_form hT
        have hW : Below w.heap.size w (w.alloc (.cells #[.int .i64 t.op, .string t.atom.name, .slice a t.atom.args.length cap, .string t.v, .slice a2 t.parts.length cap2] 36)) := (Below.refl _ _).alloc (Nat.le_refl _) _
        have bT : Box (w.alloc (.cells #[.int .i64 t.op, .string t.atom.name, .slice a t.atom.args.length cap, .string t.v, .slice a2 t.parts.length cap2] 36)) w.heap.size [.int .i64 t.op, .string t.atom.name, .slice a t.atom.args.length cap, .string t.v, .slice a2 t.parts.length cap2] := Box.new w _ _
        replace hT := Fm.at_keep (Keeps.all hW) hT
        go_enter Try.func68, Try.ntmps68
        go_wp2_with fail
        generalize (w.alloc (.cells #[.int .i64 t.op, .string t.atom.name, .slice a t.atom.args.length cap, .string t.v, .slice a2 t.parts.length cap2] 36)) = w0 at *
        refine (l8None_any t.atom (Fm.at_atom hT) hbA).mono ?_
        rintro e w1 ⟨_, rfl, hb, rfl⟩
        replace hW := hW.trans (hb.mono hW.size)
        replace bT := bT.keep hb
        replace hT := Fm.at_keep (Keeps.all hb) hT
        clear hb
        rw [ha]
        have eT0 := bT.c0
        have eT1 := bT.c1
        have eT2 := bT.c2
        have eT3 := bT.c3
        have eT4 := bT.c4
        have lT := bT.lt
        go_wp2_with fail
        clear eT0 eT1 eT2 eT3 eT4 lT
        go_ret
        exact Gives.mk (ret_bool (by rw [HG.out]; first | rw [toListNil] | rw [toListEmpty])) hW
      · replace ha : t.atom.none = false := by simpa using ha
        have HG : Hid (t.form = false) := by rw [Hid, HF.out, ha]; simp
        clear hl
        obtain ⟨rfl, rfl, ⟨a, cap, rfl⟩, rfl, a2, cap2, rfl⟩ := Fm.at_form hT
        have hW : Below w.heap.size w (w.alloc (.cells #[.int .i64 t.op, .string t.atom.name, .slice a t.atom.args.length cap, .string t.v, .slice a2 t.parts.length cap2] 36)) := (Below.refl _ _).alloc (Nat.le_refl _) _
        have bT : Box (w.alloc (.cells #[.int .i64 t.op, .string t.atom.name, .slice a t.atom.args.length cap, .string t.v, .slice a2 t.parts.length cap2] 36)) w.heap.size [.int .i64 t.op, .string t.atom.name, .slice a t.atom.args.length cap, .string t.v, .slice a2 t.parts.length cap2] := Box.new w _ _
        replace hT := Fm.at_keep (Keeps.all hW) hT
        go_enter Try.func68, Try.ntmps68
        go_wp2_with fail
        generalize (w.alloc (.cells #[.int .i64 t.op, .string t.atom.name, .slice a t.atom.args.length cap, .string t.v, .slice a2 t.parts.length cap2] 36)) = w0 at *
        refine (l8None_any t.atom (Fm.at_atom hT) hbA).mono ?_
        rintro e w1 ⟨_, rfl, hb, rfl⟩
        replace hW := hW.trans (hb.mono hW.size)
        replace bT := bT.keep hb
        replace hT := Fm.at_keep (Keeps.all hb) hT
        clear hb
        rw [ha]
        have eT0 := bT.c0
        have eT1 := bT.c1
        have eT2 := bT.c2
        have eT3 := bT.c3
        have eT4 := bT.c4
        have lT := bT.lt
        go_wp2_with fail
        clear eT0 eT1 eT2 eT3 eT4 lT
        go_ret
        exact Gives.mk (ret_bool HG.out.symm) hW
    · have hl2 : ((t.parts.length : Int) == 0) = false := by rw [beq_eq_false_iff_ne]; omega
      have HG : Hid (t.form = false) := by rw [Hid, HF.out]; simp [hl]
      clear hl
      obtain ⟨rfl, rfl, ⟨a, cap, rfl⟩, rfl, a2, cap2, rfl⟩ := Fm.at_form hT
      have hW : Below w.heap.size w (w.alloc (.cells #[.int .i64 t.op, .string t.atom.name, .slice a t.atom.args.length cap, .string t.v, .slice a2 t.parts.length cap2] 36)) := (Below.refl _ _).alloc (Nat.le_refl _) _
      have bT : Box (w.alloc (.cells #[.int .i64 t.op, .string t.atom.name, .slice a t.atom.args.length cap, .string t.v, .slice a2 t.parts.length cap2] 36)) w.heap.size [.int .i64 t.op, .string t.atom.name, .slice a t.atom.args.length cap, .string t.v, .slice a2 t.parts.length cap2] := Box.new w _ _
      replace hT := Fm.at_keep (Keeps.all hW) hT
      go_enter Try.func68, Try.ntmps68
      go_wp2_with fail
      generalize (w.alloc (.cells #[.int .i64 t.op, .string t.atom.name, .slice a t.atom.args.length cap, .string t.v, .slice a2 t.parts.length cap2] 36)) = w0 at *
      go_ret
      exact Gives.mk (ret_bool HG.out.symm) hW
  have p1 : (t.op == 1) = false := by simp [o1]
  have r1 := hid o1
  clear o1
  by_cases o1 : t.op = 2
  · have HF : Hid (t.form = (decide (t.parts.length = 0) && t.atom.none && decide (t.v = ⟨#[]⟩))) := by rw [Hid, Fm.form_2 o1]
    have s1 : (t.op == 2) = true := by simp [o1]
    clear o1
    by_cases hl : t.parts.length = 0
    · have hl2 : ((t.parts.length : Int) == 0) = true := by rw [beq_iff_eq]; omega
      by_cases ha : t.atom.none = true
      · have HG : Hid (t.form = decide (t.v = ⟨#[]⟩)) := by rw [Hid, HF.out, ha]; simp [hl]
        clear hl
        obtain ⟨rfl, rfl, ⟨a, cap, rfl⟩, rfl, a2, cap2, rfl⟩ := Fm.at_form hT
        have hW : Below w.heap.size w (w.alloc (.cells #[.int .i64 t.op, .string t.atom.name, .slice a t.atom.args.length cap, .string t.v, .slice a2 t.parts.length cap2] 36)) := (Below.refl _ _).alloc (Nat.le_refl _) _
        have bT : Box (w.alloc (.cells #[.int .i64 t.op, .string t.atom.name, .slice a t.atom.args.length cap, .string t.v, .slice a2 t.parts.length cap2] 36)) w.heap.size [.int .i64 t.op, .string t.atom.name, .slice a t.atom.args.length cap, .string t.v, .slice a2 t.parts.length cap2] := Box.new w _ _
        replace hT := Fm.at_keep (Keeps.all hW) hT
        go_enter Try.func68, Try.ntmps68
        go_wp2_with fail
        generalize (w.alloc (.cells #[.int .i64 t.op, .string t.atom.name, .slice a t.atom.args.length cap, .string t.v, .slice a2 t.parts.length cap2] 36)) = w0 at *
        refine (l8None_any t.atom (Fm.at_atom hT) hbA).mono ?_
        rintro e w1 ⟨_, rfl, hb, rfl⟩
        replace hW := hW.trans (hb.mono hW.size)
        replace bT := bT.keep hb
        replace hT := Fm.at_keep (Keeps.all hb) hT
        clear hb
        rw [ha]
        have eT0 := bT.c0
        have eT1 := bT.c1
        have eT2 := bT.c2
        have eT3 := bT.c3
        have eT4 := bT.c4
        have lT := bT.lt
        go_wp2_with fail
        clear eT0 eT1 eT2 eT3 eT4 lT
        go_ret
        exact Gives.mk (ret_bool (by rw [HG.out]; first | rw [toListNil] | rw [toListEmpty])) hW
      · replace ha : t.atom.none = false := by simpa using ha
        have HG : Hid (t.form = false) := by rw [Hid, HF.out, ha]; simp
        clear hl
        obtain ⟨rfl, rfl, ⟨a, cap, rfl⟩, rfl, a2, cap2, rfl⟩ := Fm.at_form hT
        have hW : Below w.heap.size w (w.alloc (.cells #[.int .i64 t.op, .string t.atom.name, .slice a t.atom.args.length cap, .string t.v, .slice a2 t.parts.length cap2] 36)) := (Below.refl _ _).alloc (Nat.le_refl _) _
        have bT : Box (w.alloc (.cells #[.int .i64 t.op, .string t.atom.name, .slice a t.atom.args.length cap, .string t.v, .slice a2 t.parts.length cap2] 36)) w.heap.size [.int .i64 t.op, .string t.atom.name, .slice a t.atom.args.length cap, .string t.v, .slice a2 t.parts.length cap2] := Box.new w _ _
        replace hT := Fm.at_keep (Keeps.all hW) hT
        go_enter Try.func68, Try.ntmps68
        go_wp2_with fail
        generalize (w.alloc (.cells #[.int .i64 t.op, .string t.atom.name, .slice a t.atom.args.length cap, .string t.v, .slice a2 t.parts.length cap2] 36)) = w0 at *
        refine (l8None_any t.atom (Fm.at_atom hT) hbA).mono ?_
        rintro e w1 ⟨_, rfl, hb, rfl⟩
        replace hW := hW.trans (hb.mono hW.size)
        replace bT := bT.keep hb
        replace hT := Fm.at_keep (Keeps.all hb) hT
        clear hb
        rw [ha]
        have eT0 := bT.c0
        have eT1 := bT.c1
        have eT2 := bT.c2
        have eT3 := bT.c3
        have eT4 := bT.c4
        have lT := bT.lt
        go_wp2_with fail
        clear eT0 eT1 eT2 eT3 eT4 lT
        go_ret
        exact Gives.mk (ret_bool HG.out.symm) hW
    · have hl2 : ((t.parts.length : Int) == 0) = false := by rw [beq_eq_false_iff_ne]; omega
      have HG : Hid (t.form = false) := by rw [Hid, HF.out]; simp [hl]
      clear hl
      obtain ⟨rfl, rfl, ⟨a, cap, rfl⟩, rfl, a2, cap2, rfl⟩ := Fm.at_form hT
      have hW : Below w.heap.size w (w.alloc (.cells #[.int .i64 t.op, .string t.atom.name, .slice a t.atom.args.length cap, .string t.v, .slice a2 t.parts.length cap2] 36)) := (Below.refl _ _).alloc (Nat.le_refl _) _
      have bT : Box (w.alloc (.cells #[.int .i64 t.op, .string t.atom.name, .slice a t.atom.args.length cap, .string t.v, .slice a2 t.parts.length cap2] 36)) w.heap.size [.int .i64 t.op, .string t.atom.name, .slice a t.atom.args.length cap, .string t.v, .slice a2 t.parts.length cap2] := Box.new w _ _
      replace hT := Fm.at_keep (Keeps.all hW) hT
      go_enter Try.func68, Try.ntmps68
      go_wp2_with fail
      generalize (w.alloc (.cells #[.int .i64 t.op, .string t.atom.name, .slice a t.atom.args.length cap, .string t.v, .slice a2 t.parts.length cap2] 36)) = w0 at *
      go_ret
      exact Gives.mk (ret_bool HG.out.symm) hW
  have p2 : (t.op == 2) = false := by simp [o1]
  have r2 := hid o1
  clear o1
  by_cases o1 : t.op = 3
  · have HF : Hid (t.form = (decide (t.parts.length = 0) && t.atom.atom && decide (t.v = ⟨#[]⟩))) := by rw [Hid, Fm.form_3 o1]
    have s1 : (t.op == 3) = true := by simp [o1]
    clear o1
    by_cases hl : t.parts.length = 0
    · have hl2 : ((t.parts.length : Int) == 0) = true := by rw [beq_iff_eq]; omega
      by_cases ha : t.atom.atom = true
      · have HG : Hid (t.form = decide (t.v = ⟨#[]⟩)) := by rw [Hid, HF.out, ha]; simp [hl]
        clear hl
        obtain ⟨rfl, rfl, ⟨a, cap, rfl⟩, rfl, a2, cap2, rfl⟩ := Fm.at_form hT
        have hW : Below w.heap.size w (w.alloc (.cells #[.int .i64 t.op, .string t.atom.name, .slice a t.atom.args.length cap, .string t.v, .slice a2 t.parts.length cap2] 36)) := (Below.refl _ _).alloc (Nat.le_refl _) _
        have bT : Box (w.alloc (.cells #[.int .i64 t.op, .string t.atom.name, .slice a t.atom.args.length cap, .string t.v, .slice a2 t.parts.length cap2] 36)) w.heap.size [.int .i64 t.op, .string t.atom.name, .slice a t.atom.args.length cap, .string t.v, .slice a2 t.parts.length cap2] := Box.new w _ _
        replace hT := Fm.at_keep (Keeps.all hW) hT
        go_enter Try.func68, Try.ntmps68
        go_wp2_with fail
        generalize (w.alloc (.cells #[.int .i64 t.op, .string t.atom.name, .slice a t.atom.args.length cap, .string t.v, .slice a2 t.parts.length cap2] 36)) = w0 at *
        refine (l2Atom_any t.atom (Fm.at_atom hT) hbA).mono ?_
        rintro e w1 ⟨_, rfl, hb, rfl⟩
        replace hW := hW.trans (hb.mono hW.size)
        replace bT := bT.keep hb
        replace hT := Fm.at_keep (Keeps.all hb) hT
        clear hb
        rw [ha]
        have eT0 := bT.c0
        have eT1 := bT.c1
        have eT2 := bT.c2
        have eT3 := bT.c3
        have eT4 := bT.c4
        have lT := bT.lt
        go_wp2_with fail
        clear eT0 eT1 eT2 eT3 eT4 lT
        go_ret
        exact Gives.mk (ret_bool (by rw [HG.out]; first | rw [toListNil] | rw [toListEmpty])) hW
      · replace ha : t.atom.atom = false := by simpa using ha
        have HG : Hid (t.form = false) := by rw [Hid, HF.out, ha]; simp
        clear hl
        obtain ⟨rfl, rfl, ⟨a, cap, rfl⟩, rfl, a2, cap2, rfl⟩ := Fm.at_form hT
        have hW : Below w.heap.size w (w.alloc (.cells #[.int .i64 t.op, .string t.atom.name, .slice a t.atom.args.length cap, .string t.v, .slice a2 t.parts.length cap2] 36)) := (Below.refl _ _).alloc (Nat.le_refl _) _
        have bT : Box (w.alloc (.cells #[.int .i64 t.op, .string t.atom.name, .slice a t.atom.args.length cap, .string t.v, .slice a2 t.parts.length cap2] 36)) w.heap.size [.int .i64 t.op, .string t.atom.name, .slice a t.atom.args.length cap, .string t.v, .slice a2 t.parts.length cap2] := Box.new w _ _
        replace hT := Fm.at_keep (Keeps.all hW) hT
        go_enter Try.func68, Try.ntmps68
        go_wp2_with fail
        generalize (w.alloc (.cells #[.int .i64 t.op, .string t.atom.name, .slice a t.atom.args.length cap, .string t.v, .slice a2 t.parts.length cap2] 36)) = w0 at *
        refine (l2Atom_any t.atom (Fm.at_atom hT) hbA).mono ?_
        rintro e w1 ⟨_, rfl, hb, rfl⟩
        replace hW := hW.trans (hb.mono hW.size)
        replace bT := bT.keep hb
        replace hT := Fm.at_keep (Keeps.all hb) hT
        clear hb
        rw [ha]
        have eT0 := bT.c0
        have eT1 := bT.c1
        have eT2 := bT.c2
        have eT3 := bT.c3
        have eT4 := bT.c4
        have lT := bT.lt
        go_wp2_with fail
        clear eT0 eT1 eT2 eT3 eT4 lT
        go_ret
        exact Gives.mk (ret_bool HG.out.symm) hW
    · have hl2 : ((t.parts.length : Int) == 0) = false := by rw [beq_eq_false_iff_ne]; omega
      have HG : Hid (t.form = false) := by rw [Hid, HF.out]; simp [hl]
      clear hl
      obtain ⟨rfl, rfl, ⟨a, cap, rfl⟩, rfl, a2, cap2, rfl⟩ := Fm.at_form hT
      have hW : Below w.heap.size w (w.alloc (.cells #[.int .i64 t.op, .string t.atom.name, .slice a t.atom.args.length cap, .string t.v, .slice a2 t.parts.length cap2] 36)) := (Below.refl _ _).alloc (Nat.le_refl _) _
      have bT : Box (w.alloc (.cells #[.int .i64 t.op, .string t.atom.name, .slice a t.atom.args.length cap, .string t.v, .slice a2 t.parts.length cap2] 36)) w.heap.size [.int .i64 t.op, .string t.atom.name, .slice a t.atom.args.length cap, .string t.v, .slice a2 t.parts.length cap2] := Box.new w _ _
      replace hT := Fm.at_keep (Keeps.all hW) hT
      go_enter Try.func68, Try.ntmps68
      go_wp2_with fail
      generalize (w.alloc (.cells #[.int .i64 t.op, .string t.atom.name, .slice a t.atom.args.length cap, .string t.v, .slice a2 t.parts.length cap2] 36)) = w0 at *
      go_ret
      exact Gives.mk (ret_bool HG.out.symm) hW
  have p3 : (t.op == 3) = false := by simp [o1]
  have r3 := hid o1
  clear o1
  by_cases o1 : t.op = 4
  · have HF : Hid (t.form = (decide (t.parts.length = 1) && t.atom.none && decide (t.v = ⟨#[]⟩))) := by rw [Hid, Fm.form_4 o1]
    have s1 : (t.op == 4) = true := by simp [o1]
    clear o1
    by_cases hl : t.parts.length = 1
    · have hl2 : ((t.parts.length : Int) == 1) = true := by rw [beq_iff_eq]; omega
      by_cases ha : t.atom.none = true
      · have HG : Hid (t.form = decide (t.v = ⟨#[]⟩)) := by rw [Hid, HF.out, ha]; simp [hl]
        clear hl
        obtain ⟨rfl, rfl, ⟨a, cap, rfl⟩, rfl, a2, cap2, rfl⟩ := Fm.at_form hT
        have hW : Below w.heap.size w (w.alloc (.cells #[.int .i64 t.op, .string t.atom.name, .slice a t.atom.args.length cap, .string t.v, .slice a2 t.parts.length cap2] 36)) := (Below.refl _ _).alloc (Nat.le_refl _) _
        have bT : Box (w.alloc (.cells #[.int .i64 t.op, .string t.atom.name, .slice a t.atom.args.length cap, .string t.v, .slice a2 t.parts.length cap2] 36)) w.heap.size [.int .i64 t.op, .string t.atom.name, .slice a t.atom.args.length cap, .string t.v, .slice a2 t.parts.length cap2] := Box.new w _ _
        replace hT := Fm.at_keep (Keeps.all hW) hT
        go_enter Try.func68, Try.ntmps68
        go_wp2_with fail
        generalize (w.alloc (.cells #[.int .i64 t.op, .string t.atom.name, .slice a t.atom.args.length cap, .string t.v, .slice a2 t.parts.length cap2] 36)) = w0 at *
        refine (l8None_any t.atom (Fm.at_atom hT) hbA).mono ?_
        rintro e w1 ⟨_, rfl, hb, rfl⟩
        replace hW := hW.trans (hb.mono hW.size)
        replace bT := bT.keep hb
        replace hT := Fm.at_keep (Keeps.all hb) hT
        clear hb
        rw [ha]
        have eT0 := bT.c0
        have eT1 := bT.c1
        have eT2 := bT.c2
        have eT3 := bT.c3
        have eT4 := bT.c4
        have lT := bT.lt
        go_wp2_with fail
        clear eT0 eT1 eT2 eT3 eT4 lT
        go_ret
        exact Gives.mk (ret_bool (by rw [HG.out]; first | rw [toListNil] | rw [toListEmpty])) hW
      · replace ha : t.atom.none = false := by simpa using ha
        have HG : Hid (t.form = false) := by rw [Hid, HF.out, ha]; simp
        clear hl
        obtain ⟨rfl, rfl, ⟨a, cap, rfl⟩, rfl, a2, cap2, rfl⟩ := Fm.at_form hT
        have hW : Below w.heap.size w (w.alloc (.cells #[.int .i64 t.op, .string t.atom.name, .slice a t.atom.args.length cap, .string t.v, .slice a2 t.parts.length cap2] 36)) := (Below.refl _ _).alloc (Nat.le_refl _) _
        have bT : Box (w.alloc (.cells #[.int .i64 t.op, .string t.atom.name, .slice a t.atom.args.length cap, .string t.v, .slice a2 t.parts.length cap2] 36)) w.heap.size [.int .i64 t.op, .string t.atom.name, .slice a t.atom.args.length cap, .string t.v, .slice a2 t.parts.length cap2] := Box.new w _ _
        replace hT := Fm.at_keep (Keeps.all hW) hT
        go_enter Try.func68, Try.ntmps68
        go_wp2_with fail
        generalize (w.alloc (.cells #[.int .i64 t.op, .string t.atom.name, .slice a t.atom.args.length cap, .string t.v, .slice a2 t.parts.length cap2] 36)) = w0 at *
        refine (l8None_any t.atom (Fm.at_atom hT) hbA).mono ?_
        rintro e w1 ⟨_, rfl, hb, rfl⟩
        replace hW := hW.trans (hb.mono hW.size)
        replace bT := bT.keep hb
        replace hT := Fm.at_keep (Keeps.all hb) hT
        clear hb
        rw [ha]
        have eT0 := bT.c0
        have eT1 := bT.c1
        have eT2 := bT.c2
        have eT3 := bT.c3
        have eT4 := bT.c4
        have lT := bT.lt
        go_wp2_with fail
        clear eT0 eT1 eT2 eT3 eT4 lT
        go_ret
        exact Gives.mk (ret_bool HG.out.symm) hW
    · have hl2 : ((t.parts.length : Int) == 1) = false := by rw [beq_eq_false_iff_ne]; omega
      have HG : Hid (t.form = false) := by rw [Hid, HF.out]; simp [hl]
      clear hl
      obtain ⟨rfl, rfl, ⟨a, cap, rfl⟩, rfl, a2, cap2, rfl⟩ := Fm.at_form hT
      have hW : Below w.heap.size w (w.alloc (.cells #[.int .i64 t.op, .string t.atom.name, .slice a t.atom.args.length cap, .string t.v, .slice a2 t.parts.length cap2] 36)) := (Below.refl _ _).alloc (Nat.le_refl _) _
      have bT : Box (w.alloc (.cells #[.int .i64 t.op, .string t.atom.name, .slice a t.atom.args.length cap, .string t.v, .slice a2 t.parts.length cap2] 36)) w.heap.size [.int .i64 t.op, .string t.atom.name, .slice a t.atom.args.length cap, .string t.v, .slice a2 t.parts.length cap2] := Box.new w _ _
      replace hT := Fm.at_keep (Keeps.all hW) hT
      go_enter Try.func68, Try.ntmps68
      go_wp2_with fail
      generalize (w.alloc (.cells #[.int .i64 t.op, .string t.atom.name, .slice a t.atom.args.length cap, .string t.v, .slice a2 t.parts.length cap2] 36)) = w0 at *
      go_ret
      exact Gives.mk (ret_bool HG.out.symm) hW
  have p4 : (t.op == 4) = false := by simp [o1]
  have r4 := hid o1
  clear o1
  by_cases o1 : t.op = 5
  · have HF : Hid (t.form = (decide (t.parts.length = 2) && t.atom.none && decide (t.v = ⟨#[]⟩))) := by rw [Hid, Fm.form_5 o1]
    have s1 : (t.op == 5) = true := by simp [o1]
    clear o1
    by_cases hl : t.parts.length = 2
    · have hl2 : ((t.parts.length : Int) == 2) = true := by rw [beq_iff_eq]; omega
      by_cases ha : t.atom.none = true
      · have HG : Hid (t.form = decide (t.v = ⟨#[]⟩)) := by rw [Hid, HF.out, ha]; simp [hl]
        clear hl
        obtain ⟨rfl, rfl, ⟨a, cap, rfl⟩, rfl, a2, cap2, rfl⟩ := Fm.at_form hT
        have hW : Below w.heap.size w (w.alloc (.cells #[.int .i64 t.op, .string t.atom.name, .slice a t.atom.args.length cap, .string t.v, .slice a2 t.parts.length cap2] 36)) := (Below.refl _ _).alloc (Nat.le_refl _) _
        have bT : Box (w.alloc (.cells #[.int .i64 t.op, .string t.atom.name, .slice a t.atom.args.length cap, .string t.v, .slice a2 t.parts.length cap2] 36)) w.heap.size [.int .i64 t.op, .string t.atom.name, .slice a t.atom.args.length cap, .string t.v, .slice a2 t.parts.length cap2] := Box.new w _ _
        replace hT := Fm.at_keep (Keeps.all hW) hT
        go_enter Try.func68, Try.ntmps68
        go_wp2_with fail
        generalize (w.alloc (.cells #[.int .i64 t.op, .string t.atom.name, .slice a t.atom.args.length cap, .string t.v, .slice a2 t.parts.length cap2] 36)) = w0 at *
        refine (l8None_any t.atom (Fm.at_atom hT) hbA).mono ?_
        rintro e w1 ⟨_, rfl, hb, rfl⟩
        replace hW := hW.trans (hb.mono hW.size)
        replace bT := bT.keep hb
        replace hT := Fm.at_keep (Keeps.all hb) hT
        clear hb
        rw [ha]
        have eT0 := bT.c0
        have eT1 := bT.c1
        have eT2 := bT.c2
        have eT3 := bT.c3
        have eT4 := bT.c4
        have lT := bT.lt
        go_wp2_with fail
        clear eT0 eT1 eT2 eT3 eT4 lT
        go_ret
        exact Gives.mk (ret_bool (by rw [HG.out]; first | rw [toListNil] | rw [toListEmpty])) hW
      · replace ha : t.atom.none = false := by simpa using ha
        have HG : Hid (t.form = false) := by rw [Hid, HF.out, ha]; simp
        clear hl
        obtain ⟨rfl, rfl, ⟨a, cap, rfl⟩, rfl, a2, cap2, rfl⟩ := Fm.at_form hT
        have hW : Below w.heap.size w (w.alloc (.cells #[.int .i64 t.op, .string t.atom.name, .slice a t.atom.args.length cap, .string t.v, .slice a2 t.parts.length cap2] 36)) := (Below.refl _ _).alloc (Nat.le_refl _) _
        have bT : Box (w.alloc (.cells #[.int .i64 t.op, .string t.atom.name, .slice a t.atom.args.length cap, .string t.v, .slice a2 t.parts.length cap2] 36)) w.heap.size [.int .i64 t.op, .string t.atom.name, .slice a t.atom.args.length cap, .string t.v, .slice a2 t.parts.length cap2] := Box.new w _ _
        replace hT := Fm.at_keep (Keeps.all hW) hT
        go_enter Try.func68, Try.ntmps68
        go_wp2_with fail
        generalize (w.alloc (.cells #[.int .i64 t.op, .string t.atom.name, .slice a t.atom.args.length cap, .string t.v, .slice a2 t.parts.length cap2] 36)) = w0 at *
        refine (l8None_any t.atom (Fm.at_atom hT) hbA).mono ?_
        rintro e w1 ⟨_, rfl, hb, rfl⟩
        replace hW := hW.trans (hb.mono hW.size)
        replace bT := bT.keep hb
        replace hT := Fm.at_keep (Keeps.all hb) hT
        clear hb
        rw [ha]
        have eT0 := bT.c0
        have eT1 := bT.c1
        have eT2 := bT.c2
        have eT3 := bT.c3
        have eT4 := bT.c4
        have lT := bT.lt
        go_wp2_with fail
        clear eT0 eT1 eT2 eT3 eT4 lT
        go_ret
        exact Gives.mk (ret_bool HG.out.symm) hW
    · have hl2 : ((t.parts.length : Int) == 2) = false := by rw [beq_eq_false_iff_ne]; omega
      have HG : Hid (t.form = false) := by rw [Hid, HF.out]; simp [hl]
      clear hl
      obtain ⟨rfl, rfl, ⟨a, cap, rfl⟩, rfl, a2, cap2, rfl⟩ := Fm.at_form hT
      have hW : Below w.heap.size w (w.alloc (.cells #[.int .i64 t.op, .string t.atom.name, .slice a t.atom.args.length cap, .string t.v, .slice a2 t.parts.length cap2] 36)) := (Below.refl _ _).alloc (Nat.le_refl _) _
      have bT : Box (w.alloc (.cells #[.int .i64 t.op, .string t.atom.name, .slice a t.atom.args.length cap, .string t.v, .slice a2 t.parts.length cap2] 36)) w.heap.size [.int .i64 t.op, .string t.atom.name, .slice a t.atom.args.length cap, .string t.v, .slice a2 t.parts.length cap2] := Box.new w _ _
      replace hT := Fm.at_keep (Keeps.all hW) hT
      go_enter Try.func68, Try.ntmps68
      go_wp2_with fail
      generalize (w.alloc (.cells #[.int .i64 t.op, .string t.atom.name, .slice a t.atom.args.length cap, .string t.v, .slice a2 t.parts.length cap2] 36)) = w0 at *
      go_ret
      exact Gives.mk (ret_bool HG.out.symm) hW
  have p5 : (t.op == 5) = false := by simp [o1]
  have r5 := hid o1
  clear o1
  by_cases o1 : t.op = 6
  · have HF : Hid (t.form = (decide (t.parts.length = 2) && t.atom.none && decide (t.v = ⟨#[]⟩))) := by rw [Hid, Fm.form_6 o1]
    have s1 : (t.op == 6) = true := by simp [o1]
    clear o1
    by_cases hl : t.parts.length = 2
    · have hl2 : ((t.parts.length : Int) == 2) = true := by rw [beq_iff_eq]; omega
      by_cases ha : t.atom.none = true
      · have HG : Hid (t.form = decide (t.v = ⟨#[]⟩)) := by rw [Hid, HF.out, ha]; simp [hl]
        clear hl
        obtain ⟨rfl, rfl, ⟨a, cap, rfl⟩, rfl, a2, cap2, rfl⟩ := Fm.at_form hT
        have hW : Below w.heap.size w (w.alloc (.cells #[.int .i64 t.op, .string t.atom.name, .slice a t.atom.args.length cap, .string t.v, .slice a2 t.parts.length cap2] 36)) := (Below.refl _ _).alloc (Nat.le_refl _) _
        have bT : Box (w.alloc (.cells #[.int .i64 t.op, .string t.atom.name, .slice a t.atom.args.length cap, .string t.v, .slice a2 t.parts.length cap2] 36)) w.heap.size [.int .i64 t.op, .string t.atom.name, .slice a t.atom.args.length cap, .string t.v, .slice a2 t.parts.length cap2] := Box.new w _ _
        replace hT := Fm.at_keep (Keeps.all hW) hT
        go_enter Try.func68, Try.ntmps68
        go_wp2_with fail
        generalize (w.alloc (.cells #[.int .i64 t.op, .string t.atom.name, .slice a t.atom.args.length cap, .string t.v, .slice a2 t.parts.length cap2] 36)) = w0 at *
        refine (l8None_any t.atom (Fm.at_atom hT) hbA).mono ?_
        rintro e w1 ⟨_, rfl, hb, rfl⟩
        replace hW := hW.trans (hb.mono hW.size)
        replace bT := bT.keep hb
        replace hT := Fm.at_keep (Keeps.all hb) hT
        clear hb
        rw [ha]
        have eT0 := bT.c0
        have eT1 := bT.c1
        have eT2 := bT.c2
        have eT3 := bT.c3
        have eT4 := bT.c4
        have lT := bT.lt
        go_wp2_with fail
        clear eT0 eT1 eT2 eT3 eT4 lT
        go_ret
        exact Gives.mk (ret_bool (by rw [HG.out]; first | rw [toListNil] | rw [toListEmpty])) hW
      · replace ha : t.atom.none = false := by simpa using ha
        have HG : Hid (t.form = false) := by rw [Hid, HF.out, ha]; simp
        clear hl
        obtain ⟨rfl, rfl, ⟨a, cap, rfl⟩, rfl, a2, cap2, rfl⟩ := Fm.at_form hT
        have hW : Below w.heap.size w (w.alloc (.cells #[.int .i64 t.op, .string t.atom.name, .slice a t.atom.args.length cap, .string t.v, .slice a2 t.parts.length cap2] 36)) := (Below.refl _ _).alloc (Nat.le_refl _) _
        have bT : Box (w.alloc (.cells #[.int .i64 t.op, .string t.atom.name, .slice a t.atom.args.length cap, .string t.v, .slice a2 t.parts.length cap2] 36)) w.heap.size [.int .i64 t.op, .string t.atom.name, .slice a t.atom.args.length cap, .string t.v, .slice a2 t.parts.length cap2] := Box.new w _ _
        replace hT := Fm.at_keep (Keeps.all hW) hT
        go_enter Try.func68, Try.ntmps68
        go_wp2_with fail
        generalize (w.alloc (.cells #[.int .i64 t.op, .string t.atom.name, .slice a t.atom.args.length cap, .string t.v, .slice a2 t.parts.length cap2] 36)) = w0 at *
        refine (l8None_any t.atom (Fm.at_atom hT) hbA).mono ?_
        rintro e w1 ⟨_, rfl, hb, rfl⟩
        replace hW := hW.trans (hb.mono hW.size)
        replace bT := bT.keep hb
        replace hT := Fm.at_keep (Keeps.all hb) hT
        clear hb
        rw [ha]
        have eT0 := bT.c0
        have eT1 := bT.c1
        have eT2 := bT.c2
        have eT3 := bT.c3
        have eT4 := bT.c4
        have lT := bT.lt
        go_wp2_with fail
        clear eT0 eT1 eT2 eT3 eT4 lT
        go_ret
        exact Gives.mk (ret_bool HG.out.symm) hW
    · have hl2 : ((t.parts.length : Int) == 2) = false := by rw [beq_eq_false_iff_ne]; omega
      have HG : Hid (t.form = false) := by rw [Hid, HF.out]; simp [hl]
      clear hl
      obtain ⟨rfl, rfl, ⟨a, cap, rfl⟩, rfl, a2, cap2, rfl⟩ := Fm.at_form hT
      have hW : Below w.heap.size w (w.alloc (.cells #[.int .i64 t.op, .string t.atom.name, .slice a t.atom.args.length cap, .string t.v, .slice a2 t.parts.length cap2] 36)) := (Below.refl _ _).alloc (Nat.le_refl _) _
      have bT : Box (w.alloc (.cells #[.int .i64 t.op, .string t.atom.name, .slice a t.atom.args.length cap, .string t.v, .slice a2 t.parts.length cap2] 36)) w.heap.size [.int .i64 t.op, .string t.atom.name, .slice a t.atom.args.length cap, .string t.v, .slice a2 t.parts.length cap2] := Box.new w _ _
      replace hT := Fm.at_keep (Keeps.all hW) hT
      go_enter Try.func68, Try.ntmps68
      go_wp2_with fail
      generalize (w.alloc (.cells #[.int .i64 t.op, .string t.atom.name, .slice a t.atom.args.length cap, .string t.v, .slice a2 t.parts.length cap2] 36)) = w0 at *
      go_ret
      exact Gives.mk (ret_bool HG.out.symm) hW
  have p6 : (t.op == 6) = false := by simp [o1]
  have r6 := hid o1
  clear o1
  by_cases o1 : t.op = 7
  · have HF : Hid (t.form = (decide (t.parts.length = 2) && t.atom.none && decide (t.v = ⟨#[]⟩))) := by rw [Hid, Fm.form_7 o1]
    have s1 : (t.op == 7) = true := by simp [o1]
    clear o1
    by_cases hl : t.parts.length = 2
    · have hl2 : ((t.parts.length : Int) == 2) = true := by rw [beq_iff_eq]; omega
      by_cases ha : t.atom.none = true
      · have HG : Hid (t.form = decide (t.v = ⟨#[]⟩)) := by rw [Hid, HF.out, ha]; simp [hl]
        clear hl
        obtain ⟨rfl, rfl, ⟨a, cap, rfl⟩, rfl, a2, cap2, rfl⟩ := Fm.at_form hT
        have hW : Below w.heap.size w (w.alloc (.cells #[.int .i64 t.op, .string t.atom.name, .slice a t.atom.args.length cap, .string t.v, .slice a2 t.parts.length cap2] 36)) := (Below.refl _ _).alloc (Nat.le_refl _) _
        have bT : Box (w.alloc (.cells #[.int .i64 t.op, .string t.atom.name, .slice a t.atom.args.length cap, .string t.v, .slice a2 t.parts.length cap2] 36)) w.heap.size [.int .i64 t.op, .string t.atom.name, .slice a t.atom.args.length cap, .string t.v, .slice a2 t.parts.length cap2] := Box.new w _ _
        replace hT := Fm.at_keep (Keeps.all hW) hT
        go_enter Try.func68, Try.ntmps68
        go_wp2_with fail
        generalize (w.alloc (.cells #[.int .i64 t.op, .string t.atom.name, .slice a t.atom.args.length cap, .string t.v, .slice a2 t.parts.length cap2] 36)) = w0 at *
        refine (l8None_any t.atom (Fm.at_atom hT) hbA).mono ?_
        rintro e w1 ⟨_, rfl, hb, rfl⟩
        replace hW := hW.trans (hb.mono hW.size)
        replace bT := bT.keep hb
        replace hT := Fm.at_keep (Keeps.all hb) hT
        clear hb
        rw [ha]
        have eT0 := bT.c0
        have eT1 := bT.c1
        have eT2 := bT.c2
        have eT3 := bT.c3
        have eT4 := bT.c4
        have lT := bT.lt
        go_wp2_with fail
        clear eT0 eT1 eT2 eT3 eT4 lT
        go_ret
        exact Gives.mk (ret_bool (by rw [HG.out]; first | rw [toListNil] | rw [toListEmpty])) hW
      · replace ha : t.atom.none = false := by simpa using ha
        have HG : Hid (t.form = false) := by rw [Hid, HF.out, ha]; simp
        clear hl
        obtain ⟨rfl, rfl, ⟨a, cap, rfl⟩, rfl, a2, cap2, rfl⟩ := Fm.at_form hT
        have hW : Below w.heap.size w (w.alloc (.cells #[.int .i64 t.op, .string t.atom.name, .slice a t.atom.args.length cap, .string t.v, .slice a2 t.parts.length cap2] 36)) := (Below.refl _ _).alloc (Nat.le_refl _) _
        have bT : Box (w.alloc (.cells #[.int .i64 t.op, .string t.atom.name, .slice a t.atom.args.length cap, .string t.v, .slice a2 t.parts.length cap2] 36)) w.heap.size [.int .i64 t.op, .string t.atom.name, .slice a t.atom.args.length cap, .string t.v, .slice a2 t.parts.length cap2] := Box.new w _ _
        replace hT := Fm.at_keep (Keeps.all hW) hT
        go_enter Try.func68, Try.ntmps68
        go_wp2_with fail
        generalize (w.alloc (.cells #[.int .i64 t.op, .string t.atom.name, .slice a t.atom.args.length cap, .string t.v, .slice a2 t.parts.length cap2] 36)) = w0 at *
        refine (l8None_any t.atom (Fm.at_atom hT) hbA).mono ?_
        rintro e w1 ⟨_, rfl, hb, rfl⟩
        replace hW := hW.trans (hb.mono hW.size)
        replace bT := bT.keep hb
        replace hT := Fm.at_keep (Keeps.all hb) hT
        clear hb
        rw [ha]
        have eT0 := bT.c0
        have eT1 := bT.c1
        have eT2 := bT.c2
        have eT3 := bT.c3
        have eT4 := bT.c4
        have lT := bT.lt
        go_wp2_with fail
        clear eT0 eT1 eT2 eT3 eT4 lT
        go_ret
        exact Gives.mk (ret_bool HG.out.symm) hW
    · have hl2 : ((t.parts.length : Int) == 2) = false := by rw [beq_eq_false_iff_ne]; omega
      have HG : Hid (t.form = false) := by rw [Hid, HF.out]; simp [hl]
      clear hl
      obtain ⟨rfl, rfl, ⟨a, cap, rfl⟩, rfl, a2, cap2, rfl⟩ := Fm.at_form hT
      have hW : Below w.heap.size w (w.alloc (.cells #[.int .i64 t.op, .string t.atom.name, .slice a t.atom.args.length cap, .string t.v, .slice a2 t.parts.length cap2] 36)) := (Below.refl _ _).alloc (Nat.le_refl _) _
      have bT : Box (w.alloc (.cells #[.int .i64 t.op, .string t.atom.name, .slice a t.atom.args.length cap, .string t.v, .slice a2 t.parts.length cap2] 36)) w.heap.size [.int .i64 t.op, .string t.atom.name, .slice a t.atom.args.length cap, .string t.v, .slice a2 t.parts.length cap2] := Box.new w _ _
      replace hT := Fm.at_keep (Keeps.all hW) hT
      go_enter Try.func68, Try.ntmps68
      go_wp2_with fail
      generalize (w.alloc (.cells #[.int .i64 t.op, .string t.atom.name, .slice a t.atom.args.length cap, .string t.v, .slice a2 t.parts.length cap2] 36)) = w0 at *
      go_ret
      exact Gives.mk (ret_bool HG.out.symm) hW
  have p7 : (t.op == 7) = false := by simp [o1]
  have r7 := hid o1
  clear o1
  by_cases o1 : t.op = 8
  · have HF : Hid (t.form = (decide (t.parts.length = 1) && t.atom.none && varName t.v)) := by rw [Hid, Fm.form_8 o1]
    have s1 : (t.op == 8) = true := by simp [o1]
    clear o1
    by_cases hl : t.parts.length = 1
    · have hl2 : ((t.parts.length : Int) == 1) = true := by rw [beq_iff_eq]; omega
      by_cases ha : t.atom.none = true
      · have HG : Hid (t.form = varName t.v) := by rw [Hid, HF.out, ha]; simp [hl]
        clear hl
        obtain ⟨rfl, rfl, ⟨a, cap, rfl⟩, rfl, a2, cap2, rfl⟩ := Fm.at_form hT
        have hW : Below w.heap.size w (w.alloc (.cells #[.int .i64 t.op, .string t.atom.name, .slice a t.atom.args.length cap, .string t.v, .slice a2 t.parts.length cap2] 36)) := (Below.refl _ _).alloc (Nat.le_refl _) _
        have bT : Box (w.alloc (.cells #[.int .i64 t.op, .string t.atom.name, .slice a t.atom.args.length cap, .string t.v, .slice a2 t.parts.length cap2] 36)) w.heap.size [.int .i64 t.op, .string t.atom.name, .slice a t.atom.args.length cap, .string t.v, .slice a2 t.parts.length cap2] := Box.new w _ _
        replace hT := Fm.at_keep (Keeps.all hW) hT
        go_enter Try.func68, Try.ntmps68
        go_wp2_with fail
        generalize (w.alloc (.cells #[.int .i64 t.op, .string t.atom.name, .slice a t.atom.args.length cap, .string t.v, .slice a2 t.parts.length cap2] 36)) = w0 at *
        refine (l8None_any t.atom (Fm.at_atom hT) hbA).mono ?_
        rintro e w1 ⟨_, rfl, hb, rfl⟩
        replace hW := hW.trans (hb.mono hW.size)
        replace bT := bT.keep hb
        replace hT := Fm.at_keep (Keeps.all hb) hT
        clear hb
        rw [ha]
        have eT0 := bT.c0
        have eT1 := bT.c1
        have eT2 := bT.c2
        have eT3 := bT.c3
        have eT4 := bT.c4
        have lT := bT.lt
        go_wp2_with fail
        clear eT0 eT1 eT2 eT3 eT4 lT
        refine (l2Var_any t.v (Fm.v_le hT) _).mono ?_
        rintro e w4 ⟨rfl, rfl⟩
        have eT3 := bT.c3
        go_wp2_with fail
        go_ret
        exact Gives.mk (ret_bool HG.out.symm) hW
      · replace ha : t.atom.none = false := by simpa using ha
        have HG : Hid (t.form = false) := by rw [Hid, HF.out, ha]; simp
        clear hl
        obtain ⟨rfl, rfl, ⟨a, cap, rfl⟩, rfl, a2, cap2, rfl⟩ := Fm.at_form hT
        have hW : Below w.heap.size w (w.alloc (.cells #[.int .i64 t.op, .string t.atom.name, .slice a t.atom.args.length cap, .string t.v, .slice a2 t.parts.length cap2] 36)) := (Below.refl _ _).alloc (Nat.le_refl _) _
        have bT : Box (w.alloc (.cells #[.int .i64 t.op, .string t.atom.name, .slice a t.atom.args.length cap, .string t.v, .slice a2 t.parts.length cap2] 36)) w.heap.size [.int .i64 t.op, .string t.atom.name, .slice a t.atom.args.length cap, .string t.v, .slice a2 t.parts.length cap2] := Box.new w _ _
        replace hT := Fm.at_keep (Keeps.all hW) hT
        go_enter Try.func68, Try.ntmps68
        go_wp2_with fail
        generalize (w.alloc (.cells #[.int .i64 t.op, .string t.atom.name, .slice a t.atom.args.length cap, .string t.v, .slice a2 t.parts.length cap2] 36)) = w0 at *
        refine (l8None_any t.atom (Fm.at_atom hT) hbA).mono ?_
        rintro e w1 ⟨_, rfl, hb, rfl⟩
        replace hW := hW.trans (hb.mono hW.size)
        replace bT := bT.keep hb
        replace hT := Fm.at_keep (Keeps.all hb) hT
        clear hb
        rw [ha]
        have eT0 := bT.c0
        have eT1 := bT.c1
        have eT2 := bT.c2
        have eT3 := bT.c3
        have eT4 := bT.c4
        have lT := bT.lt
        go_wp2_with fail
        clear eT0 eT1 eT2 eT3 eT4 lT
        go_ret
        exact Gives.mk (ret_bool HG.out.symm) hW
    · have hl2 : ((t.parts.length : Int) == 1) = false := by rw [beq_eq_false_iff_ne]; omega
      have HG : Hid (t.form = false) := by rw [Hid, HF.out]; simp [hl]
      clear hl
      obtain ⟨rfl, rfl, ⟨a, cap, rfl⟩, rfl, a2, cap2, rfl⟩ := Fm.at_form hT
      have hW : Below w.heap.size w (w.alloc (.cells #[.int .i64 t.op, .string t.atom.name, .slice a t.atom.args.length cap, .string t.v, .slice a2 t.parts.length cap2] 36)) := (Below.refl _ _).alloc (Nat.le_refl _) _
      have bT : Box (w.alloc (.cells #[.int .i64 t.op, .string t.atom.name, .slice a t.atom.args.length cap, .string t.v, .slice a2 t.parts.length cap2] 36)) w.heap.size [.int .i64 t.op, .string t.atom.name, .slice a t.atom.args.length cap, .string t.v, .slice a2 t.parts.length cap2] := Box.new w _ _
      replace hT := Fm.at_keep (Keeps.all hW) hT
      go_enter Try.func68, Try.ntmps68
      go_wp2_with fail
      generalize (w.alloc (.cells #[.int .i64 t.op, .string t.atom.name, .slice a t.atom.args.length cap, .string t.v, .slice a2 t.parts.length cap2] 36)) = w0 at *
      go_ret
      exact Gives.mk (ret_bool HG.out.symm) hW
  have p8 : (t.op == 8) = false := by simp [o1]
  have r8 := hid o1
  clear o1
  by_cases o1 : t.op = 9
  · have HF : Hid (t.form = (decide (t.parts.length = 1) && t.atom.none && varName t.v)) := by rw [Hid, Fm.form_9 o1]
    have s1 : (t.op == 9) = true := by simp [o1]
    clear o1
    by_cases hl : t.parts.length = 1
    · have hl2 : ((t.parts.length : Int) == 1) = true := by rw [beq_iff_eq]; omega
      by_cases ha : t.atom.none = true
      · have HG : Hid (t.form = varName t.v) := by rw [Hid, HF.out, ha]; simp [hl]
        clear hl
        obtain ⟨rfl, rfl, ⟨a, cap, rfl⟩, rfl, a2, cap2, rfl⟩ := Fm.at_form hT
        have hW : Below w.heap.size w (w.alloc (.cells #[.int .i64 t.op, .string t.atom.name, .slice a t.atom.args.length cap, .string t.v, .slice a2 t.parts.length cap2] 36)) := (Below.refl _ _).alloc (Nat.le_refl _) _
        have bT : Box (w.alloc (.cells #[.int .i64 t.op, .string t.atom.name, .slice a t.atom.args.length cap, .string t.v, .slice a2 t.parts.length cap2] 36)) w.heap.size [.int .i64 t.op, .string t.atom.name, .slice a t.atom.args.length cap, .string t.v, .slice a2 t.parts.length cap2] := Box.new w _ _
        replace hT := Fm.at_keep (Keeps.all hW) hT
        go_enter Try.func68, Try.ntmps68
        go_wp2_with fail
        generalize (w.alloc (.cells #[.int .i64 t.op, .string t.atom.name, .slice a t.atom.args.length cap, .string t.v, .slice a2 t.parts.length cap2] 36)) = w0 at *
        refine (l8None_any t.atom (Fm.at_atom hT) hbA).mono ?_
        rintro e w1 ⟨_, rfl, hb, rfl⟩
        replace hW := hW.trans (hb.mono hW.size)
        replace bT := bT.keep hb
        replace hT := Fm.at_keep (Keeps.all hb) hT
        clear hb
        rw [ha]
        have eT0 := bT.c0
        have eT1 := bT.c1
        have eT2 := bT.c2
        have eT3 := bT.c3
        have eT4 := bT.c4
        have lT := bT.lt
        go_wp2_with fail
        clear eT0 eT1 eT2 eT3 eT4 lT
        refine (l2Var_any t.v (Fm.v_le hT) _).mono ?_
        rintro e w4 ⟨rfl, rfl⟩
        have eT3 := bT.c3
        go_wp2_with fail
        go_ret
        exact Gives.mk (ret_bool HG.out.symm) hW
      · replace ha : t.atom.none = false := by simpa using ha
        have HG : Hid (t.form = false) := by rw [Hid, HF.out, ha]; simp
        clear hl
        obtain ⟨rfl, rfl, ⟨a, cap, rfl⟩, rfl, a2, cap2, rfl⟩ := Fm.at_form hT
        have hW : Below w.heap.size w (w.alloc (.cells #[.int .i64 t.op, .string t.atom.name, .slice a t.atom.args.length cap, .string t.v, .slice a2 t.parts.length cap2] 36)) := (Below.refl _ _).alloc (Nat.le_refl _) _
        have bT : Box (w.alloc (.cells #[.int .i64 t.op, .string t.atom.name, .slice a t.atom.args.length cap, .string t.v, .slice a2 t.parts.length cap2] 36)) w.heap.size [.int .i64 t.op, .string t.atom.name, .slice a t.atom.args.length cap, .string t.v, .slice a2 t.parts.length cap2] := Box.new w _ _
        replace hT := Fm.at_keep (Keeps.all hW) hT
        go_enter Try.func68, Try.ntmps68
        go_wp2_with fail
        generalize (w.alloc (.cells #[.int .i64 t.op, .string t.atom.name, .slice a t.atom.args.length cap, .string t.v, .slice a2 t.parts.length cap2] 36)) = w0 at *
        refine (l8None_any t.atom (Fm.at_atom hT) hbA).mono ?_
        rintro e w1 ⟨_, rfl, hb, rfl⟩
        replace hW := hW.trans (hb.mono hW.size)
        replace bT := bT.keep hb
        replace hT := Fm.at_keep (Keeps.all hb) hT
        clear hb
        rw [ha]
        have eT0 := bT.c0
        have eT1 := bT.c1
        have eT2 := bT.c2
        have eT3 := bT.c3
        have eT4 := bT.c4
        have lT := bT.lt
        go_wp2_with fail
        clear eT0 eT1 eT2 eT3 eT4 lT
        go_ret
        exact Gives.mk (ret_bool HG.out.symm) hW
    · have hl2 : ((t.parts.length : Int) == 1) = false := by rw [beq_eq_false_iff_ne]; omega
      have HG : Hid (t.form = false) := by rw [Hid, HF.out]; simp [hl]
      clear hl
      obtain ⟨rfl, rfl, ⟨a, cap, rfl⟩, rfl, a2, cap2, rfl⟩ := Fm.at_form hT
      have hW : Below w.heap.size w (w.alloc (.cells #[.int .i64 t.op, .string t.atom.name, .slice a t.atom.args.length cap, .string t.v, .slice a2 t.parts.length cap2] 36)) := (Below.refl _ _).alloc (Nat.le_refl _) _
      have bT : Box (w.alloc (.cells #[.int .i64 t.op, .string t.atom.name, .slice a t.atom.args.length cap, .string t.v, .slice a2 t.parts.length cap2] 36)) w.heap.size [.int .i64 t.op, .string t.atom.name, .slice a t.atom.args.length cap, .string t.v, .slice a2 t.parts.length cap2] := Box.new w _ _
      replace hT := Fm.at_keep (Keeps.all hW) hT
      go_enter Try.func68, Try.ntmps68
      go_wp2_with fail
      generalize (w.alloc (.cells #[.int .i64 t.op, .string t.atom.name, .slice a t.atom.args.length cap, .string t.v, .slice a2 t.parts.length cap2] 36)) = w0 at *
      go_ret
      exact Gives.mk (ret_bool HG.out.symm) hW
  have p9 : (t.op == 9) = false := by simp [o1]
  have r9 := hid o1
  clear o1
  have HG : Hid (t.form = false) := Fm.form_none r1.out r2.out r3.out r4.out r5.out r6.out r7.out r8.out r9.out
  obtain ⟨rfl, rfl, ⟨a, cap, rfl⟩, rfl, a2, cap2, rfl⟩ := Fm.at_form hT
  have hW : Below w.heap.size w (w.alloc (.cells #[.int .i64 t.op, .string t.atom.name, .slice a t.atom.args.length cap, .string t.v, .slice a2 t.parts.length cap2] 36)) := (Below.refl _ _).alloc (Nat.le_refl _) _
  have bT : Box (w.alloc (.cells #[.int .i64 t.op, .string t.atom.name, .slice a t.atom.args.length cap, .string t.v, .slice a2 t.parts.length cap2] 36)) w.heap.size [.int .i64 t.op, .string t.atom.name, .slice a t.atom.args.length cap, .string t.v, .slice a2 t.parts.length cap2] := Box.new w _ _
  replace hT := Fm.at_keep (Keeps.all hW) hT
  go_enter Try.func68, Try.ntmps68
  go_wp2_with fail
  generalize (w.alloc (.cells #[.int .i64 t.op, .string t.atom.name, .slice a t.atom.args.length cap, .string t.v, .slice a2 t.parts.length cap2] 36)) = w0 at *
  go_ret
  exact Gives.mk (ret_bool HG.out.symm) hW
end Go.Proofs.Ythpookgpmnbilaa
