/- Is a formula valid? -/
import Derived.Test.YthpookgpmnbilaaFh
namespace Go.Proofs.Ythpookgpmnbilaa
set_option maxRecDepth 100000
open Go.RowKit

set_option maxHeartbeats 2000000 in
theorem l8Forms_of (t : Fm) (h : ∀ p ∈ t.parts, PredF 46 Fm.forms p) : PredF 46 Fm.forms t := by
  intro S c0 c1 c2 c3 c4 w hT hbk
  have hbA : t.atom.bulk ≤ 1048576 := by have := Fm.bulk_eq t; omega
  have hlen : t.parts.length ≤ 1048576 := by have := Fm.bulk_eq t; omega
  have HF := hid (Fm.forms_eq t)
  obtain ⟨rfl, rfl, ⟨a, cap, rfl⟩, rfl, a2, cap2, rfl⟩ := Fm.at_form hT
  have hW : Below w.heap.size w (w.alloc (.cells #[.int .i64 t.op, .string t.atom.name, .slice a t.atom.args.length cap, .string t.v, .slice a2 t.parts.length cap2] 36)) := (Below.refl _ _).alloc (Nat.le_refl _) _
  have bT : Box (w.alloc (.cells #[.int .i64 t.op, .string t.atom.name, .slice a t.atom.args.length cap, .string t.v, .slice a2 t.parts.length cap2] 36)) w.heap.size [.int .i64 t.op, .string t.atom.name, .slice a t.atom.args.length cap, .string t.v, .slice a2 t.parts.length cap2] := Box.new w _ _
  replace hT := Fm.at_keep (Keeps.all hW) hT
  go_enter Try.func46, Try.ntmps46
  go_wp2_with fail
  generalize (w.alloc (.cells #[.int .i64 t.op, .string t.atom.name, .slice a t.atom.args.length cap, .string t.v, .slice a2 t.parts.length cap2] 36)) = w0 at *
  by_cases hf : t.form = true
  · have HG : Hid (t.forms = Fm.formsAll t.parts) := by rw [Hid, HF.out, hf]; rfl
    refine (l8Form_any t hT hbk).mono ?_
    rintro e w1 ⟨_, rfl, hb, rfl⟩
    replace hW := hW.trans (hb.mono hW.size)
    replace bT := bT.keep hb
    replace hT := Fm.at_keep (Keeps.all hb) hT
    clear hb
    rw [hf]
    have eT0 := bT.c0
    have eT1 := bT.c1
    have eT2 := bT.c2
    have eT3 := bT.c3
    have eT4 := bT.c4
    have lT := bT.lt
    go_wp2_with fail
    clear eT0 eT1 eT2 eT3 eT4 lT
    clear hf
    go_loopw [3] (fun i wr => ∃ (k : Nat), k ≤ t.parts.length ∧ i = .int .i64 k ∧ Hid (Fm.formsAll (t.parts.take k) = true) ∧ Below w1.heap.size w1 wr) (fun i _ => t.parts.length - (intOf i).toNat)
    case atStart => exact ⟨0, Nat.zero_le _, rfl, by simp [Hid, Fm.formsAll], Below.refl _ _⟩
    case round =>
      obtain ⟨k, hk, rfl, HX, hb⟩ := hrel
      have hWr := hW.trans (hb.mono hW.size)
      have bR := bT.keep hb
      have eT0 := bR.c0
      have eT1 := bR.c1
      have eT2 := bR.c2
      have eT3 := bR.c3
      have eT4 := bR.c4
      have lT := bR.lt
      by_cases hlt : k < t.parts.length
      · have hne : t.parts ≠ [] := by intro e; rw [e] at hlt; simp at hlt
        obtain ⟨b, off, rfl, hS, hbl, hrr⟩ := Fm.sd_get (Fm.at_parts hT) hne
        obtain ⟨c0, c1, c2, c3, c4, q0, q1, q2, q3, q4, qx⟩ := hrr k hlt
        obtain ⟨rfl, rfl, ⟨p, pc, rfl⟩, rfl, y, yc, rfl⟩ := Fm.at_form qx
        replace q0 := (hb.cell (p := ⟨b, off + k * 5, none⟩) hbl).trans q0
        replace q1 := (hb.cell (p := ⟨b, off + k * 5 + 1, none⟩) hbl).trans q1
        replace q2 := (hb.cell (p := ⟨b, off + k * 5 + 2, none⟩) hbl).trans q2
        replace q3 := (hb.cell (p := ⟨b, off + k * 5 + 3, none⟩) hbl).trans q3
        replace q4 := (hb.cell (p := ⟨b, off + k * 5 + 4, none⟩) hbl).trans q4
        replace qx := Fm.at_keep (Keeps.all hb) qx
        have hmem := h t.parts[k] (List.getElem_mem hlt)
        have hbm : t.parts[k].bulk ≤ 1048576 := by have := Fm.bulk_mem (List.getElem_mem hlt); have := Fm.bulk_eq t; omega
        clear hrr
        go_wp2_with fail
        refine (hmem qx hbm).mono ?_
        rintro e w2 ⟨_, rfl, hb2, rfl⟩
        by_cases hp : t.parts[k].forms = true
        · have HS := hid (Fm.formsAll_take hlt HX.out hp)
          rw [hp]
          clear hp
          go_wp2_with fail
          go_roundw
          case rel => exact ⟨k + 1, by omega, by go_num, HS, hb.trans (hb2.mono hb.size)⟩
          case measure => simp [intOf]; omega
        · replace hp : t.parts[k].forms = false := by simpa using hp
          have HS : Hid (t.forms = false) := by rw [Hid, HG.out]; exact Fm.formsAll_bad hlt hp
          rw [hp]
          clear hp
          go_wp2_with fail
          go_ret
          exact Gives.mk (ret_bool HS.out.symm) (hWr.trans (hb2.mono hWr.size))
      · obtain rfl : k = t.parts.length := by omega
        have HS : Hid (t.forms = true) := by rw [Hid, HG.out]; have := HX.out; rwa [List.take_length] at this
        go_wp2_with fail
        go_ret
        exact Gives.mk (ret_bool HS.out.symm) hWr
  · replace hf : t.form = false := by simpa using hf
    have HG : Hid (t.forms = false) := by rw [Hid, HF.out, hf]; rfl
    refine (l8Form_any t hT hbk).mono ?_
    rintro e w1 ⟨_, rfl, hb, rfl⟩
    replace hW := hW.trans (hb.mono hW.size)
    replace bT := bT.keep hb
    replace hT := Fm.at_keep (Keeps.all hb) hT
    clear hb
    rw [hf]
    have eT0 := bT.c0
    have eT1 := bT.c1
    have eT2 := bT.c2
    have eT3 := bT.c3
    have eT4 := bT.c4
    have lT := bT.lt
    go_wp2_with fail
    clear eT0 eT1 eT2 eT3 eT4 lT
    go_ret
    exact Gives.mk (ret_bool HG.out.symm) hW
theorem l8Forms_any (t : Fm) : PredF 46 Fm.forms t := Fm.ind (P := PredF 46 Fm.forms) (fun o a v ps h => l8Forms_of (.node o a v ps) h) t

set_option maxHeartbeats 2000000 in
theorem l8Good_any (t : Fm) : PredF 26 Fm.valid t := by
  intro S c0 c1 c2 c3 c4 w hT hbk
  obtain ⟨rfl, rfl, ⟨a, cap, rfl⟩, rfl, a2, cap2, rfl⟩ := Fm.at_form hT
  have hW : Below w.heap.size w (w.alloc (.cells #[.int .i64 t.op, .string t.atom.name, .slice a t.atom.args.length cap, .string t.v, .slice a2 t.parts.length cap2] 36)) := (Below.refl _ _).alloc (Nat.le_refl _) _
  have bT : Box (w.alloc (.cells #[.int .i64 t.op, .string t.atom.name, .slice a t.atom.args.length cap, .string t.v, .slice a2 t.parts.length cap2] 36)) w.heap.size [.int .i64 t.op, .string t.atom.name, .slice a t.atom.args.length cap, .string t.v, .slice a2 t.parts.length cap2] := Box.new w _ _
  replace hT := Fm.at_keep (Keeps.all hW) hT
  go_enter Try.func26, Try.ntmps26
  go_wp2_with fail
  generalize (w.alloc (.cells #[.int .i64 t.op, .string t.atom.name, .slice a t.atom.args.length cap, .string t.v, .slice a2 t.parts.length cap2] 36)) = w0 at *
  refine (l8Many_any t 40 S _ _ _ _ _ _ (by omega) hT hbk).mono ?_
  rintro e w1 ⟨r, rfl, hu, hb⟩
  replace hW := hW.trans (hb.mono hW.size)
  replace bT := bT.keep hb
  replace hT := Fm.at_keep (Keeps.all hb) hT
  clear hb
  have hul := hu.le
  have eT0 := bT.c0
  have eT1 := bT.c1
  have eT2 := bT.c2
  have eT3 := bT.c3
  have eT4 := bT.c4
  by_cases hs : t.size ≤ 40
  · have HG : Hid (t.valid = t.forms) := by simp [Hid, Fm.valid, hs]
    have hr : (r : Int) ≤ 40 := by have := of_decide_eq_true (hul.trans (decide_eq_true hs)); omega
    clear hs hul hu
    go_wp2_with fail
    clear eT0 eT1 eT2 eT3 eT4
    refine (l8Forms_any t hT hbk).mono ?_
    rintro e w2 ⟨_, rfl, hb, rfl⟩
    go_wp2_with fail
    go_ret
    exact Gives.mk (ret_bool HG.out.symm) (hW.trans (hb.mono hW.size))
  · have HG : Hid (t.valid = false) := by simp [Hid, Fm.valid, hs]
    have hr : ¬ (r : Int) ≤ 40 := by have := of_decide_eq_false (hul.trans (decide_eq_false hs)); omega
    clear hs hul hu
    go_wp2_with fail
    go_ret
    exact Gives.mk (ret_bool HG.out.symm) hW
set_option maxHeartbeats 2000000 in
theorem impl_IsValidFormula {t : Fm} {S : Nat → Prop} {c0 c1 c2 c3 c4 : Value} {w : World} (hT : Fm.at S w c0 c1 c2 c3 c4 t) (hbk : t.bulk ≤ 1048576) : Calls Try.prog 29 #[.agg #[c0, c1, c2, c3, c4]] w (Gives w (.bool t.valid)) := by
  obtain ⟨rfl, rfl, ⟨a, cap, rfl⟩, rfl, a2, cap2, rfl⟩ := Fm.at_form hT
  have hW : Below w.heap.size w (w.alloc (.cells #[.int .i64 t.op, .string t.atom.name, .slice a t.atom.args.length cap, .string t.v, .slice a2 t.parts.length cap2] 36)) := (Below.refl _ _).alloc (Nat.le_refl _) _
  have bT : Box (w.alloc (.cells #[.int .i64 t.op, .string t.atom.name, .slice a t.atom.args.length cap, .string t.v, .slice a2 t.parts.length cap2] 36)) w.heap.size [.int .i64 t.op, .string t.atom.name, .slice a t.atom.args.length cap, .string t.v, .slice a2 t.parts.length cap2] := Box.new w _ _
  replace hT := Fm.at_keep (Keeps.all hW) hT
  go_enter Try.func29, Try.ntmps29
  go_wp2_with fail
  generalize (w.alloc (.cells #[.int .i64 t.op, .string t.atom.name, .slice a t.atom.args.length cap, .string t.v, .slice a2 t.parts.length cap2] 36)) = w0 at *
  refine (sizeOf_any t S _ _ _ _ _ _ hT hbk).mono ?_
  rintro e w1 ⟨r, rfl, hu, hb⟩
  replace hW := hW.trans (hb.mono hW.size)
  replace bT := bT.keep hb
  replace hT := Fm.at_keep (Keeps.all hb) hT
  clear hb
  have hul := hu.le
  have eT0 := bT.c0
  have eT1 := bT.c1
  have eT2 := bT.c2
  have eT3 := bT.c3
  have eT4 := bT.c4
  by_cases hs : t.size ≤ 40
  · have HG : Hid (t.valid = t.forms) := by simp [Hid, Fm.valid, hs]
    have hr : (r : Int) ≤ 40 := by have := of_decide_eq_true (hul.trans (decide_eq_true hs)); omega
    clear hs hul hu
    go_wp2_with fail
    clear eT0 eT1 eT2 eT3 eT4
    refine (hasForm_any t hT hbk).mono ?_
    rintro e w2 ⟨_, rfl, hb, rfl⟩
    go_wp2_with fail
    go_ret
    exact Gives.mk (ret_bool HG.out.symm) (hW.trans (hb.mono hW.size))
  · have HG : Hid (t.valid = false) := by simp [Hid, Fm.valid, hs]
    have hr : ¬ (r : Int) ≤ 40 := by have := of_decide_eq_false (hul.trans (decide_eq_false hs)); omega
    clear hs hul hu
    go_wp2_with fail
    go_ret
    exact Gives.mk (ret_bool HG.out.symm) hW
end Go.Proofs.Ythpookgpmnbilaa
