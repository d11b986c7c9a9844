/- How many formulas a formula holds: the walks. -/
import Derived.Test.YthpookgpmnbilaaFp
import Derived.Test.YthpookgpmnbilaaTs
namespace Go.Proofs.Ythpookgpmnbilaa
set_option maxRecDepth 100000
open Go.RowKit

def SizeRetF (m : Nat) (t : Fm) (w : World) (e : Ending) (w' : World) : Prop := ∃ r : Nat, e = .returned (.int .i64 r) ∧ Upto m t.size r ∧ Below w.heap.size w w'
def SizeOfF (t : Fm) : Prop := ∀ (S : Nat → Prop) (c0 c1 c2 c3 c4 : Value) (w : World), Fm.at S w c0 c1 c2 c3 c4 t → t.bulk ≤ 1048576 → Calls Try.prog 48 #[.agg #[c0, c1, c2, c3, c4]] w (SizeRetF 40 t w)

set_option maxHeartbeats 1000000 in
theorem sizeOf_of (t : Fm) (h : ∀ p ∈ t.parts, SizeOfF p) : SizeOfF t := by
  intro S c0 c1 c2 c3 c4 w hT hbk
  have hlen : t.parts.length ≤ 1048576 := by have := Fm.bulk_eq t; omega
  have hbs := Fm.size_bulk t
  have hsd := hid (Fm.size_eq t)
  obtain ⟨rfl, rfl, ⟨a, cap, rfl⟩, rfl, a2, cap2, rfl⟩ := Fm.at_form hT
  have hW : Below w.heap.size w (w.alloc (.cells #[.int .i64 t.op, .string t.atom.name, .slice a t.atom.args.length cap, .string t.v, .slice a2 t.parts.length cap2] 36)) := (Below.refl _ _).alloc (Nat.le_refl _) _
  have bT : Box (w.alloc (.cells #[.int .i64 t.op, .string t.atom.name, .slice a t.atom.args.length cap, .string t.v, .slice a2 t.parts.length cap2] 36)) w.heap.size [.int .i64 t.op, .string t.atom.name, .slice a t.atom.args.length cap, .string t.v, .slice a2 t.parts.length cap2] := Box.new w _ _
  replace hT := Fm.at_keep (Keeps.all hW) hT
  go_enter Try.func48, Try.ntmps48
  go_wp2_with fail
  generalize (w.alloc (.cells #[.int .i64 t.op, .string t.atom.name, .slice a t.atom.args.length cap, .string t.v, .slice a2 t.parts.length cap2] 36)) = w0 at *
  go_loopw [3, 9] (fun x i wr => ∃ (k r : Nat), k ≤ t.parts.length ∧ i = .int .i64 k ∧ x = .int .i64 r ∧ r ≤ 1048577 ∧ Hid (Upto 40 (1 + Fm.sizes (t.parts.take k)) r) ∧ Below w0.heap.size w0 wr) (fun _ i _ => t.parts.length - (intOf i).toNat)
  case atStart => exact ⟨0, 1, Nat.zero_le _, rfl, rfl, by omega, by simp [Hid, Upto, Fm.sizes], Below.refl _ _⟩
  case round =>
    obtain ⟨k, r, hk, rfl, rfl, hr1, HX, hb⟩ := hrel
    have hWr := hW.trans (hb.mono hW.size)
    have bR := bT.keep hb
    have eT0 := bR.c0
    have eT1 := bR.c1
    have eT2 := bR.c2
    have eT3 := bR.c3
    have eT4 := bR.c4
    have lT := bR.lt
    by_cases hlt : k < t.parts.length
    · have hne : t.parts ≠ [] := by intro e; rw [e] at hlt; simp at hlt
      obtain ⟨b, off, rfl, hS, hbl, hrr⟩ := Fm.sd_get (Fm.at_parts hT) hne
      obtain ⟨c0, c1, c2, c3, c4, q0, q1, q2, q3, q4, qx⟩ := hrr k hlt
      obtain ⟨rfl, rfl, ⟨p, pc, rfl⟩, rfl, y, yc, rfl⟩ := Fm.at_form qx
      replace q0 := (hb.cell (p := ⟨b, off + k * 5, none⟩) hbl).trans q0
      replace q1 := (hb.cell (p := ⟨b, off + k * 5 + 1, none⟩) hbl).trans q1
      replace q2 := (hb.cell (p := ⟨b, off + k * 5 + 2, none⟩) hbl).trans q2
      replace q3 := (hb.cell (p := ⟨b, off + k * 5 + 3, none⟩) hbl).trans q3
      replace q4 := (hb.cell (p := ⟨b, off + k * 5 + 4, none⟩) hbl).trans q4
      replace qx := Fm.at_keep (Keeps.all hb) qx
      have hmem := h t.parts[k] (List.getElem_mem hlt)
      have hbm : t.parts[k].bulk ≤ 1048576 := by have := Fm.bulk_mem (List.getElem_mem hlt); have := Fm.bulk_eq t; omega
      clear hrr
      have hst := hid (Fm.sizes_take t.parts k hlt)
      have hsl := hid (Fm.sizes_le t.parts (k + 1))
      by_cases h30 : 40 < r
      · have HS : Hid (Upto 40 t.size r) := by
          have := HX.out; have := hst.out; have := hsl.out; have := hsd.out
          unfold Hid Upto at *; omega
        have h30' : (40 : Int) < (r : Int) := by omega
        go_wp2_with fail
        go_ret
        exact ⟨r, rfl, HS.out, hWr.trans ((Below.refl _ _).alloc hWr.size _)⟩
      · have h30' : ¬ (40 : Int) < (r : Int) := by omega
        have hq0 := cell_alloc q0
        go_wp2_with fail
        have hbx : Below wr.heap.size wr (wr.alloc (.cells #[.int .i64 t.parts[k].op, .string t.parts[k].atom.name, .slice p t.parts[k].atom.args.length pc, .string t.parts[k].v, .slice y t.parts[k].parts.length yc] 36)) := (Below.refl _ _).alloc (Nat.le_refl _) _
        refine (hmem S _ _ _ _ _ _ (Fm.at_keep (Keeps.all hbx) qx) hbm).mono ?_
        rintro e w2 ⟨r2, rfl, hu, hb2⟩
        have hb3 := hbx.trans (hb2.mono hbx.size)
        clear hbx hb2
        have HS : Hid (Upto 40 (1 + Fm.sizes (t.parts.take (k + 1))) (r + r2)) := by
          have := HX.out.add hu; have := hst.out; rw [Hid, this, ← Nat.add_assoc]; assumption
        have hr2 : r2 ≤ 1048577 := by have := hu.2.2; have := Fm.size_bulk t.parts[k]; omega
        have hr3 : r + r2 ≤ 1048577 := by have := HS.out.2.2; have := hsl.out; have := hsd.out; omega
        clear hu
        go_wp2_with fail
        go_roundw
        case rel => exact ⟨k + 1, r + r2, by omega, by go_num, by go_num, hr3, HS, hb.trans (hb3.mono hb.size)⟩
        case measure => simp [intOf]; omega
    · obtain rfl : k = t.parts.length := by omega
      have HS : Hid (Upto 40 t.size r) := by rw [Hid, hsd.out]; have := HX.out; rwa [List.take_length] at this
      go_wp2_with fail
      go_ret
      exact ⟨r, rfl, HS.out, hWr⟩
theorem sizeOf_any (t : Fm) : SizeOfF t := Fm.ind (P := SizeOfF) (fun o a v ps h => sizeOf_of (.node o a v ps) h) t

def ManyF (t : Fm) : Prop := ∀ (m : Nat) (S : Nat → Prop) (c0 c1 c2 c3 c4 : Value) (w : World), m ≤ 1048576 → Fm.at S w c0 c1 c2 c3 c4 t → t.bulk ≤ 1048576 → Calls Try.prog 45 #[.agg #[c0, c1, c2, c3, c4], .int .i64 m] w (SizeRetF m t w)
set_option maxHeartbeats 1000000 in
theorem l8Many_of (t : Fm) (h : ∀ p ∈ t.parts, ManyF p) : ManyF t := by
  intro m S c0 c1 c2 c3 c4 w hm hT hbk
  have hlen : t.parts.length ≤ 1048576 := by have := Fm.bulk_eq t; omega
  have hbs := Fm.size_bulk t
  have hsd := hid (Fm.size_eq t)
  obtain ⟨rfl, rfl, ⟨a, cap, rfl⟩, rfl, a2, cap2, rfl⟩ := Fm.at_form hT
  have hW : Below w.heap.size w (w.alloc (.cells #[.int .i64 t.op, .string t.atom.name, .slice a t.atom.args.length cap, .string t.v, .slice a2 t.parts.length cap2] 36)) := (Below.refl _ _).alloc (Nat.le_refl _) _
  have bT : Box (w.alloc (.cells #[.int .i64 t.op, .string t.atom.name, .slice a t.atom.args.length cap, .string t.v, .slice a2 t.parts.length cap2] 36)) w.heap.size [.int .i64 t.op, .string t.atom.name, .slice a t.atom.args.length cap, .string t.v, .slice a2 t.parts.length cap2] := Box.new w _ _
  replace hT := Fm.at_keep (Keeps.all hW) hT
  go_enter Try.func45, Try.ntmps45
  go_wp2_with fail
  generalize (w.alloc (.cells #[.int .i64 t.op, .string t.atom.name, .slice a t.atom.args.length cap, .string t.v, .slice a2 t.parts.length cap2] 36)) = w0 at *
  go_loopw [5, 6] (fun x i wr => ∃ (k r : Nat), k ≤ t.parts.length ∧ i = .int .i64 k ∧ x = .int .i64 r ∧ r ≤ 1048577 ∧ Hid (Upto m (1 + Fm.sizes (t.parts.take k)) r) ∧ Below w0.heap.size w0 wr) (fun _ i _ => t.parts.length - (intOf i).toNat)
  case atStart => exact ⟨0, 1, Nat.zero_le _, rfl, rfl, by omega, by simp [Hid, Upto, Fm.sizes], Below.refl _ _⟩
  case round =>
    obtain ⟨k, r, hk, rfl, rfl, hr1, HX, hb⟩ := hrel
    have hWr := hW.trans (hb.mono hW.size)
    have bR := bT.keep hb
    have eT0 := bR.c0
    have eT1 := bR.c1
    have eT2 := bR.c2
    have eT3 := bR.c3
    have eT4 := bR.c4
    have lT := bR.lt
    by_cases hlt : k < t.parts.length
    · by_cases hrm : r ≤ m
      · have hne : t.parts ≠ [] := by intro e; rw [e] at hlt; simp at hlt
        obtain ⟨b, off, rfl, hS, hbl, hrr⟩ := Fm.sd_get (Fm.at_parts hT) hne
        obtain ⟨c0, c1, c2, c3, c4, q0, q1, q2, q3, q4, qx⟩ := hrr k hlt
        obtain ⟨rfl, rfl, ⟨p, pc, rfl⟩, rfl, y, yc, rfl⟩ := Fm.at_form qx
        replace q0 := (hb.cell (p := ⟨b, off + k * 5, none⟩) hbl).trans q0
        replace q1 := (hb.cell (p := ⟨b, off + k * 5 + 1, none⟩) hbl).trans q1
        replace q2 := (hb.cell (p := ⟨b, off + k * 5 + 2, none⟩) hbl).trans q2
        replace q3 := (hb.cell (p := ⟨b, off + k * 5 + 3, none⟩) hbl).trans q3
        replace q4 := (hb.cell (p := ⟨b, off + k * 5 + 4, none⟩) hbl).trans q4
        replace qx := Fm.at_keep (Keeps.all hb) qx
        have hmem := h t.parts[k] (List.getElem_mem hlt)
        have hbm : t.parts[k].bulk ≤ 1048576 := by have := Fm.bulk_mem (List.getElem_mem hlt); have := Fm.bulk_eq t; omega
        clear hrr
        have hst := hid (Fm.sizes_take t.parts k hlt)
        have hsl := hid (Fm.sizes_le t.parts (k + 1))
        have hrm' : (r : Int) ≤ m := by omega
        go_wp2_with fail
        rw [show ((m : Int) - (r : Int)) = ((m - r : Nat) : Int) by omega]
        refine (hmem (m - r) S _ _ _ _ _ _ (by omega) qx hbm).mono ?_
        rintro e w2 ⟨r2, rfl, hu, hb3⟩
        have HS : Hid (Upto m (1 + Fm.sizes (t.parts.take (k + 1))) (r + r2)) := by
          have := HX.out; have := hst.out; unfold Hid Upto at *; omega
        have hr2 : r2 ≤ 1048577 := by have := hu.2.2; have := Fm.size_bulk t.parts[k]; omega
        have hr3 : r + r2 ≤ 1048577 := by have := HS.out.2.2; have := hsl.out; have := hsd.out; omega
        clear hu
        go_wp2_with fail
        go_roundw
        case rel => exact ⟨k + 1, r + r2, by omega, by go_num, by go_num, hr3, HS, hb.trans (hb3.mono hb.size)⟩
        case measure => simp [intOf]; omega
      · have hsl := hid (Fm.sizes_le t.parts k)
        have HS : Hid (Upto m t.size r) := by
          have := HX.out; have := hsl.out; have := hsd.out
          unfold Hid Upto at *; omega
        have hrm' : (m : Int) < r := by omega
        go_wp2_with fail
        go_ret
        exact ⟨r, rfl, HS.out, hWr⟩
    · obtain rfl : k = t.parts.length := by omega
      have HS : Hid (Upto m t.size r) := by rw [Hid, hsd.out]; have := HX.out; rwa [List.take_length] at this
      go_wp2_with fail
      go_ret
      exact ⟨r, rfl, HS.out, hWr⟩
theorem l8Many_any (t : Fm) : ManyF t := Fm.ind (P := ManyF) (fun o a v ps h => l8Many_of (.node o a v ps) h) t
end Go.Proofs.Ythpookgpmnbilaa
