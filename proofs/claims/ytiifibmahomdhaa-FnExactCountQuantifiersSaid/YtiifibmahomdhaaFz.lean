/- The size of a formula, and its quantifiers. -/
import Derived.Test.YtiifibmahomdhaaFg
namespace Go.Proofs.Ytiifibmahomdhaa
set_option maxRecDepth 100000
open Go.RowKit

def SizeIsF (t : Fm) : Prop := ∀ ⦃S : Nat → Prop⦄ ⦃c0 c1 c2 c3 c4 : Value⦄ ⦃w : World⦄, Fm.at S w c0 c1 c2 c3 c4 t → t.bulk ≤ 1048576 → Calls Try.prog 92 #[.agg #[c0, c1, c2, c3, c4]] w (Gives w (.int .i64 t.size))
set_option maxHeartbeats 1000000 in
theorem l8Size_of (t : Fm) (h : ∀ p ∈ t.parts, SizeIsF p) : SizeIsF t := by
  intro S c0 c1 c2 c3 c4 w hT hbk
  have hlen : t.parts.length ≤ 1048576 := by have := Fm.bulk_eq t; omega
  have hbs := Fm.size_bulk t
  have hsd := hid (Fm.size_eq t)
  obtain ⟨rfl, rfl, ⟨a, cap, rfl⟩, rfl, a2, cap2, rfl⟩ := Fm.at_form hT
  have hW : Below w.heap.size w (w.alloc (.cells #[.int .i64 t.op, .string t.atom.name, .slice a t.atom.args.length cap, .string t.v, .slice a2 t.parts.length cap2] 61)) := (Below.refl _ _).alloc (Nat.le_refl _) _
  have bT : Box (w.alloc (.cells #[.int .i64 t.op, .string t.atom.name, .slice a t.atom.args.length cap, .string t.v, .slice a2 t.parts.length cap2] 61)) w.heap.size [.int .i64 t.op, .string t.atom.name, .slice a t.atom.args.length cap, .string t.v, .slice a2 t.parts.length cap2] := Box.new w _ _
  replace hT := Fm.at_keep (Keeps.all hW) hT
  go_enter Try.func92, Try.ntmps92
  go_wp2_with fail
  generalize (w.alloc (.cells #[.int .i64 t.op, .string t.atom.name, .slice a t.atom.args.length cap, .string t.v, .slice a2 t.parts.length cap2] 61)) = w0 at *
  go_loopw [3, 4] (fun x i wr => ∃ (k r : Nat), k ≤ t.parts.length ∧ i = .int .i64 k ∧ x = .int .i64 r ∧ r ≤ 1048577 ∧ Hid (r = 1 + Fm.sizes (t.parts.take k)) ∧ Below w0.heap.size w0 wr) (fun _ i _ => t.parts.length - (intOf i).toNat)
  case atStart => exact ⟨0, 1, Nat.zero_le _, rfl, rfl, by omega, by simp [Hid, Fm.sizes], Below.refl _ _⟩
  case round =>
    obtain ⟨k, r, hk, rfl, rfl, hr1, HX, hb⟩ := hrel
    have hWr := hW.trans (hb.mono hW.size)
    have bR := bT.keep hb
    have eT0 := bR.c0
    have eT1 := bR.c1
    have eT2 := bR.c2
    have eT3 := bR.c3
    have eT4 := bR.c4
    have lT := bR.lt
    by_cases hlt : k < t.parts.length
    · have hne : t.parts ≠ [] := by intro e; rw [e] at hlt; simp at hlt
      obtain ⟨b, off, rfl, hS, hbl, hrr⟩ := Fm.sd_get (Fm.at_parts hT) hne
      obtain ⟨c0, c1, c2, c3, c4, q0, q1, q2, q3, q4, qx⟩ := hrr k hlt
      obtain ⟨rfl, rfl, ⟨p, pc, rfl⟩, rfl, y, yc, rfl⟩ := Fm.at_form qx
      replace q0 := (hb.cell (p := ⟨b, off + k * 5, none⟩) hbl).trans q0
      replace q1 := (hb.cell (p := ⟨b, off + k * 5 + 1, none⟩) hbl).trans q1
      replace q2 := (hb.cell (p := ⟨b, off + k * 5 + 2, none⟩) hbl).trans q2
      replace q3 := (hb.cell (p := ⟨b, off + k * 5 + 3, none⟩) hbl).trans q3
      replace q4 := (hb.cell (p := ⟨b, off + k * 5 + 4, none⟩) hbl).trans q4
      replace qx := Fm.at_keep (Keeps.all hb) qx
      have hmem := h t.parts[k] (List.getElem_mem hlt)
      have hbm : t.parts[k].bulk ≤ 1048576 := by have := Fm.bulk_mem (List.getElem_mem hlt); have := Fm.bulk_eq t; omega
      clear hrr
      have hst := hid (Fm.sizes_take t.parts k hlt)
      have hsl := hid (Fm.sizes_le t.parts (k + 1))
      have hsm : t.parts[k].size ≤ 1048577 := by have := Fm.size_bulk t.parts[k]; omega
      go_wp2_with fail
      refine (hmem qx hbm).mono ?_
      rintro e w2 ⟨_, rfl, hb3, rfl⟩
      obtain ⟨r2, HR⟩ : ∃ r2, Hid (t.parts[k].size = r2) := ⟨_, hid rfl⟩
      rw [HR.out] at hsm ⊢
      have HS : Hid (r + r2 = 1 + Fm.sizes (t.parts.take (k + 1))) := by have := HX.out; have := HR.out; have := hst.out; show _ = _; omega
      have hr3 : r + r2 ≤ 1048577 := by have := HS.out; have := hsl.out; have := hsd.out; omega
      go_wp2_with fail
      go_roundw
      case rel => exact ⟨k + 1, r + r2, by omega, by go_num, by go_num, hr3, HS, hb.trans (hb3.mono hb.size)⟩
      case measure => simp [intOf]; omega
    · obtain rfl : k = t.parts.length := by omega
      have HS : Hid (r = t.size) := by rw [Hid, hsd.out]; have := HX.out; rwa [List.take_length] at this
      go_wp2_with fail
      go_ret
      exact Gives.mk (ret_i64 (by rw [← HS.out])) hWr
theorem l8Size_any (t : Fm) : SizeIsF t := Fm.ind (P := SizeIsF) (fun o a v ps h => l8Size_of (.node o a v ps) h) t

def Fm.sizeR (t : Fm) : Nat := if t.valid then t.size else 0
theorem Fm.valid_size {t : Fm} (h : t.valid = true) : t.size ≤ 40 := by
  rw [Fm.valid, Bool.and_eq_true] at h
  exact of_decide_eq_true h.1

set_option maxHeartbeats 1000000 in
theorem spec_FormulaSize {t : Fm} {S : Nat → Prop} {c0 c1 c2 c3 c4 : Value} {w : World} (hT : Fm.at S w c0 c1 c2 c3 c4 t) (hbk : t.bulk ≤ 1048576) : Calls Try.prog 48 #[.agg #[c0, c1, c2, c3, c4]] w (Gives w (.tuple #[.int .i64 t.sizeR, .bool t.valid])) := by
  by_cases h : t.valid = true
  · have HS : Hid (t.size = t.sizeR) := by rw [Hid, Fm.sizeR, if_pos h]
    have HE := hid h
    obtain ⟨rfl, rfl, ⟨a, cap, rfl⟩, rfl, a2, cap2, rfl⟩ := Fm.at_form hT
    have hW : Below w.heap.size w (w.alloc (.cells #[.int .i64 t.op, .string t.atom.name, .slice a t.atom.args.length cap, .string t.v, .slice a2 t.parts.length cap2] 61)) := (Below.refl _ _).alloc (Nat.le_refl _) _
    have bT : Box (w.alloc (.cells #[.int .i64 t.op, .string t.atom.name, .slice a t.atom.args.length cap, .string t.v, .slice a2 t.parts.length cap2] 61)) w.heap.size [.int .i64 t.op, .string t.atom.name, .slice a t.atom.args.length cap, .string t.v, .slice a2 t.parts.length cap2] := Box.new w _ _
    replace hT := Fm.at_keep (Keeps.all hW) hT
    go_enter Try.func48, Try.ntmps48
    go_wp2_with fail
    generalize (w.alloc (.cells #[.int .i64 t.op, .string t.atom.name, .slice a t.atom.args.length cap, .string t.v, .slice a2 t.parts.length cap2] 61)) = w0 at *
    refine (l8Good_any t hT hbk).mono ?_
    rintro e w1 ⟨_, rfl, hb, rfl⟩
    replace hW := hW.trans (hb.mono hW.size)
    replace bT := bT.keep hb
    replace hT := Fm.at_keep (Keeps.all hb) hT
    clear hb
    rw [h]
    have eT0 := bT.c0
    have eT1 := bT.c1
    have eT2 := bT.c2
    have eT3 := bT.c3
    have eT4 := bT.c4
    have lT := bT.lt
    go_wp2_with fail
    clear eT0 eT1 eT2 eT3 eT4 lT
    clear h
    refine (l8Size_any t hT hbk).mono ?_
    rintro e w1 ⟨_, rfl, hb, rfl⟩
    replace hW := hW.trans (hb.mono hW.size)
    replace bT := bT.keep hb
    replace hT := Fm.at_keep (Keeps.all hb) hT
    clear hb
    have eT0 := bT.c0
    have eT1 := bT.c1
    have eT2 := bT.c2
    have eT3 := bT.c3
    have eT4 := bT.c4
    have lT := bT.lt
    go_wp2_with fail
    clear eT0 eT1 eT2 eT3 eT4 lT
    go_ret2
    exact Gives.mk (by rw [HE.out, ← HS.out]; rfl) hW
  · replace h : t.valid = false := by simpa using h
    have HS : Hid (t.sizeR = 0) := by simp [Hid, Fm.sizeR, h]
    have HE := hid h
    obtain ⟨rfl, rfl, ⟨a, cap, rfl⟩, rfl, a2, cap2, rfl⟩ := Fm.at_form hT
    have hW : Below w.heap.size w (w.alloc (.cells #[.int .i64 t.op, .string t.atom.name, .slice a t.atom.args.length cap, .string t.v, .slice a2 t.parts.length cap2] 61)) := (Below.refl _ _).alloc (Nat.le_refl _) _
    have bT : Box (w.alloc (.cells #[.int .i64 t.op, .string t.atom.name, .slice a t.atom.args.length cap, .string t.v, .slice a2 t.parts.length cap2] 61)) w.heap.size [.int .i64 t.op, .string t.atom.name, .slice a t.atom.args.length cap, .string t.v, .slice a2 t.parts.length cap2] := Box.new w _ _
    replace hT := Fm.at_keep (Keeps.all hW) hT
    go_enter Try.func48, Try.ntmps48
    go_wp2_with fail
    generalize (w.alloc (.cells #[.int .i64 t.op, .string t.atom.name, .slice a t.atom.args.length cap, .string t.v, .slice a2 t.parts.length cap2] 61)) = w0 at *
    refine (l8Good_any t hT hbk).mono ?_
    rintro e w1 ⟨_, rfl, hb, rfl⟩
    replace hW := hW.trans (hb.mono hW.size)
    replace bT := bT.keep hb
    replace hT := Fm.at_keep (Keeps.all hb) hT
    clear hb
    rw [h]
    have eT0 := bT.c0
    have eT1 := bT.c1
    have eT2 := bT.c2
    have eT3 := bT.c3
    have eT4 := bT.c4
    have lT := bT.lt
    go_wp2_with fail
    clear eT0 eT1 eT2 eT3 eT4 lT
    go_ret2
    exact Gives.mk (by rw [HE.out, HS.out]; rfl) hW
set_option maxHeartbeats 1000000 in
theorem impl_FormulaSize {t : Fm} {S : Nat → Prop} {c0 c1 c2 c3 c4 : Value} {w : World} (hT : Fm.at S w c0 c1 c2 c3 c4 t) (hbk : t.bulk ≤ 1048576) : Calls Try.prog 49 #[.agg #[c0, c1, c2, c3, c4]] w (Gives w (.tuple #[.int .i64 t.sizeR, .bool t.valid])) := by
  by_cases h : t.valid = true
  · have HS : Hid (t.size = t.sizeR) := by rw [Hid, Fm.sizeR, if_pos h]
    have HE := hid h
    have h40 := Fm.valid_size h
    obtain ⟨rfl, rfl, ⟨a, cap, rfl⟩, rfl, a2, cap2, rfl⟩ := Fm.at_form hT
    have hW : Below w.heap.size w (w.alloc (.cells #[.int .i64 t.op, .string t.atom.name, .slice a t.atom.args.length cap, .string t.v, .slice a2 t.parts.length cap2] 61)) := (Below.refl _ _).alloc (Nat.le_refl _) _
    have bT : Box (w.alloc (.cells #[.int .i64 t.op, .string t.atom.name, .slice a t.atom.args.length cap, .string t.v, .slice a2 t.parts.length cap2] 61)) w.heap.size [.int .i64 t.op, .string t.atom.name, .slice a t.atom.args.length cap, .string t.v, .slice a2 t.parts.length cap2] := Box.new w _ _
    replace hT := Fm.at_keep (Keeps.all hW) hT
    go_enter Try.func49, Try.ntmps49
    go_wp2_with fail
    generalize (w.alloc (.cells #[.int .i64 t.op, .string t.atom.name, .slice a t.atom.args.length cap, .string t.v, .slice a2 t.parts.length cap2] 61)) = w0 at *
    refine (impl_IsValidFormula hT hbk).mono ?_
    rintro e w1 ⟨_, rfl, hb, rfl⟩
    replace hW := hW.trans (hb.mono hW.size)
    replace bT := bT.keep hb
    replace hT := Fm.at_keep (Keeps.all hb) hT
    clear hb
    rw [h]
    have eT0 := bT.c0
    have eT1 := bT.c1
    have eT2 := bT.c2
    have eT3 := bT.c3
    have eT4 := bT.c4
    have lT := bT.lt
    go_wp2_with fail
    clear eT0 eT1 eT2 eT3 eT4 lT
    clear h
    refine (sizeOf_any t S _ _ _ _ _ _ hT hbk).mono ?_
    rintro e w2 ⟨r, rfl, hu, hb⟩
    have HR : Hid (r = t.sizeR) := by rw [Hid, ← HS.out]; exact hu.1 h40
    clear hu
    go_wp2_with fail
    go_ret2
    exact Gives.mk (by rw [HE.out, ← HR.out]; rfl) (hW.trans (hb.mono hW.size))
  · replace h : t.valid = false := by simpa using h
    have HS : Hid (t.sizeR = 0) := by simp [Hid, Fm.sizeR, h]
    have HE := hid h
    obtain ⟨rfl, rfl, ⟨a, cap, rfl⟩, rfl, a2, cap2, rfl⟩ := Fm.at_form hT
    have hW : Below w.heap.size w (w.alloc (.cells #[.int .i64 t.op, .string t.atom.name, .slice a t.atom.args.length cap, .string t.v, .slice a2 t.parts.length cap2] 61)) := (Below.refl _ _).alloc (Nat.le_refl _) _
    have bT : Box (w.alloc (.cells #[.int .i64 t.op, .string t.atom.name, .slice a t.atom.args.length cap, .string t.v, .slice a2 t.parts.length cap2] 61)) w.heap.size [.int .i64 t.op, .string t.atom.name, .slice a t.atom.args.length cap, .string t.v, .slice a2 t.parts.length cap2] := Box.new w _ _
    replace hT := Fm.at_keep (Keeps.all hW) hT
    go_enter Try.func49, Try.ntmps49
    go_wp2_with fail
    generalize (w.alloc (.cells #[.int .i64 t.op, .string t.atom.name, .slice a t.atom.args.length cap, .string t.v, .slice a2 t.parts.length cap2] 61)) = w0 at *
    refine (impl_IsValidFormula hT hbk).mono ?_
    rintro e w1 ⟨_, rfl, hb, rfl⟩
    replace hW := hW.trans (hb.mono hW.size)
    replace bT := bT.keep hb
    replace hT := Fm.at_keep (Keeps.all hb) hT
    clear hb
    rw [h]
    have eT0 := bT.c0
    have eT1 := bT.c1
    have eT2 := bT.c2
    have eT3 := bT.c3
    have eT4 := bT.c4
    have lT := bT.lt
    go_wp2_with fail
    clear eT0 eT1 eT2 eT3 eT4 lT
    go_ret2
    exact Gives.mk (by rw [HE.out, HS.out]; rfl) hW
end Go.Proofs.Ytiifibmahomdhaa
