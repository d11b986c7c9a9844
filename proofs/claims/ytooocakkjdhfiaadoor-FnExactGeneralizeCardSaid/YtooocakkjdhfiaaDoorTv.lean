/- Small terms, valid terms, valid atoms, expressions. -/
import Derived.Test.YtooocakkjdhfiaaDoorTn
namespace Go.Proofs.YtooocakkjdhfiaaDoor
set_option maxRecDepth 100000
open Go.RowKit

theorem Tm.atom_eq (t : Tm) : t.atom = if t.name = eqSign then decide (t.args.length = 2) && t.small && Tm.namesAll t.args else symName t.name && t.valid := by
  cases t; rw [Tm.atom]; rfl

set_option maxHeartbeats 1000000 in
theorem isSmall_any (t : Tm) : PredIs 25 Tm.small t := by
  intro S c0 c1 w hT hbk
  obtain ⟨rfl, hn, a, cap, rfl⟩ := Tm.at_form hT
  have hW : Below w.heap.size w (w.alloc (.cells #[.string t.name, .slice a t.args.length cap] 28)) := (Below.refl _ _).alloc (Nat.le_refl _) _
  have bT : Box (w.alloc (.cells #[.string t.name, .slice a t.args.length cap] 28)) w.heap.size [.string t.name, .slice a t.args.length cap] := Box.new w _ _
  replace hT := Tm.at_keep (Keeps.all hW) hT
  go_enter Tryd.func25, Tryd.ntmps25
  go_wp2_with fail
  generalize (w.alloc (.cells #[.string t.name, .slice a t.args.length cap] 28)) = w0 at *
  refine (implSize_any t _ _ _ _ hT hbk).mono ?_
  rintro e w1 ⟨r, rfl, hu, hb⟩
  replace hW := hW.trans (hb.mono hW.size)
  replace bT := bT.keep hb
  replace hT := Tm.at_keep (Keeps.all hb) hT
  clear hb
  have eT0 := bT.c0
  have eT1 := bT.c1
  by_cases h30 : t.size ≤ 30
  · have HS : Hid (Tm.small t = decide (t.depth ≤ 8)) := by simp [Hid, Tm.small, h30]
    have h30' : (r : Int) ≤ 30 := by unfold Upto at hu; omega
    clear h30 hu
    go_wp2_with fail
    clear eT0 eT1
    refine (implDepth_any t _ _ _ _ hT hbk).mono ?_
    rintro e w2 ⟨_, rfl, hb, rfl⟩
    go_wp2_with fail
    go_ret
    exact Gives.mk (ret_bool (by rw [HS.out, Bool.eq_iff_iff]; simp; try omega)) (hW.trans (hb.mono hW.size))
  · have HS : Hid (Tm.small t = false) := by simp [Hid, Tm.small, h30]
    have h30' : ¬ (r : Int) ≤ 30 := by unfold Upto at hu; omega
    clear h30 hu
    go_wp2_with fail
    go_ret
    exact Gives.mk (ret_bool HS.out.symm) hW

set_option maxHeartbeats 1000000 in
theorem l2Fits_any (t : Tm) : PredIs 20 Tm.small t := by
  intro S c0 c1 w hT hbk
  obtain ⟨rfl, hn, a, cap, rfl⟩ := Tm.at_form hT
  have hW : Below w.heap.size w (w.alloc (.cells #[.string t.name, .slice a t.args.length cap] 28)) := (Below.refl _ _).alloc (Nat.le_refl _) _
  have bT : Box (w.alloc (.cells #[.string t.name, .slice a t.args.length cap] 28)) w.heap.size [.string t.name, .slice a t.args.length cap] := Box.new w _ _
  replace hT := Tm.at_keep (Keeps.all hW) hT
  go_enter Tryd.func20, Tryd.ntmps20
  go_wp2_with fail
  generalize (w.alloc (.cells #[.string t.name, .slice a t.args.length cap] 28)) = w0 at *
  refine (l2Many_any t 30 _ _ _ _ (by omega) hT hbk).mono ?_
  rintro e w1 ⟨r, rfl, hu, hb⟩
  replace hW := hW.trans (hb.mono hW.size)
  replace bT := bT.keep hb
  replace hT := Tm.at_keep (Keeps.all hb) hT
  clear hb
  have eT0 := bT.c0
  have eT1 := bT.c1
  by_cases h30 : t.size ≤ 30
  · have HS : Hid (Tm.small t = decide (t.depth ≤ 8)) := by simp [Hid, Tm.small, h30]
    have h30' : (r : Int) ≤ 30 := by unfold Upto at hu; omega
    clear h30 hu
    go_wp2_with fail
    clear eT0 eT1
    refine (l2Depth_any t _ _ _ _ hT hbk).mono ?_
    rintro e w2 ⟨_, rfl, hb, rfl⟩
    go_wp2_with fail
    go_ret
    exact Gives.mk (ret_bool (by rw [HS.out, Bool.eq_iff_iff]; simp; try omega)) (hW.trans (hb.mono hW.size))
  · have HS : Hid (Tm.small t = false) := by simp [Hid, Tm.small, h30]
    have h30' : ¬ (r : Int) ≤ 30 := by unfold Upto at hu; omega
    clear h30 hu
    go_wp2_with fail
    go_ret
    exact Gives.mk (ret_bool HS.out.symm) hW

set_option maxHeartbeats 1000000 in
theorem isValidTerm_any (t : Tm) : PredIs 15 Tm.valid t := by
  intro S c0 c1 w hT hbk
  obtain ⟨rfl, hn, a, cap, rfl⟩ := Tm.at_form hT
  have hW : Below w.heap.size w (w.alloc (.cells #[.string t.name, .slice a t.args.length cap] 28)) := (Below.refl _ _).alloc (Nat.le_refl _) _
  have bT : Box (w.alloc (.cells #[.string t.name, .slice a t.args.length cap] 28)) w.heap.size [.string t.name, .slice a t.args.length cap] := Box.new w _ _
  replace hT := Tm.at_keep (Keeps.all hW) hT
  go_enter Tryd.func15, Tryd.ntmps15
  go_wp2_with fail
  generalize (w.alloc (.cells #[.string t.name, .slice a t.args.length cap] 28)) = w0 at *
  by_cases h1 : t.small = true
  · have HS : Hid (Tm.valid t = t.names) := by simp [Hid, Tm.valid, h1]
    refine (isSmall_any t hT hbk).mono ?_
    rintro e w1 ⟨_, rfl, hb, rfl⟩
    replace hW := hW.trans (hb.mono hW.size)
    replace bT := bT.keep hb
    replace hT := Tm.at_keep (Keeps.all hb) hT
    clear hb
    rw [h1]
    have eT0 := bT.c0
    have eT1 := bT.c1
    have lT := bT.lt
    go_wp2_with fail
    clear eT0 eT1 lT
    clear h1
    refine (hasNames_any t hT hbk).mono ?_
    rintro e w1 ⟨_, rfl, hb, rfl⟩
    replace hW := hW.trans (hb.mono hW.size)
    replace bT := bT.keep hb
    replace hT := Tm.at_keep (Keeps.all hb) hT
    clear hb
    have eT0 := bT.c0
    have eT1 := bT.c1
    have lT := bT.lt
    go_wp2_with fail
    clear eT0 eT1 lT
    go_ret
    exact Gives.mk (ret_bool HS.out.symm) hW
  · replace h1 : t.small = false := by simpa using h1
    have HS : Hid (Tm.valid t = false) := by simp [Hid, Tm.valid, h1]
    refine (isSmall_any t hT hbk).mono ?_
    rintro e w1 ⟨_, rfl, hb, rfl⟩
    replace hW := hW.trans (hb.mono hW.size)
    replace bT := bT.keep hb
    replace hT := Tm.at_keep (Keeps.all hb) hT
    clear hb
    rw [h1]
    have eT0 := bT.c0
    have eT1 := bT.c1
    have lT := bT.lt
    go_wp2_with fail
    clear eT0 eT1 lT
    go_ret
    exact Gives.mk (ret_bool HS.out.symm) hW

set_option maxHeartbeats 1000000 in
theorem l2Good_any (t : Tm) : PredIs 12 Tm.valid t := by
  intro S c0 c1 w hT hbk
  obtain ⟨rfl, hn, a, cap, rfl⟩ := Tm.at_form hT
  have hW : Below w.heap.size w (w.alloc (.cells #[.string t.name, .slice a t.args.length cap] 28)) := (Below.refl _ _).alloc (Nat.le_refl _) _
  have bT : Box (w.alloc (.cells #[.string t.name, .slice a t.args.length cap] 28)) w.heap.size [.string t.name, .slice a t.args.length cap] := Box.new w _ _
  replace hT := Tm.at_keep (Keeps.all hW) hT
  go_enter Tryd.func12, Tryd.ntmps12
  go_wp2_with fail
  generalize (w.alloc (.cells #[.string t.name, .slice a t.args.length cap] 28)) = w0 at *
  by_cases h1 : t.small = true
  · have HS : Hid (Tm.valid t = t.names) := by simp [Hid, Tm.valid, h1]
    refine (l2Fits_any t hT hbk).mono ?_
    rintro e w1 ⟨_, rfl, hb, rfl⟩
    replace hW := hW.trans (hb.mono hW.size)
    replace bT := bT.keep hb
    replace hT := Tm.at_keep (Keeps.all hb) hT
    clear hb
    rw [h1]
    have eT0 := bT.c0
    have eT1 := bT.c1
    have lT := bT.lt
    go_wp2_with fail
    clear eT0 eT1 lT
    clear h1
    refine (l2Nodes_any t hT hbk).mono ?_
    rintro e w1 ⟨_, rfl, hb, rfl⟩
    replace hW := hW.trans (hb.mono hW.size)
    replace bT := bT.keep hb
    replace hT := Tm.at_keep (Keeps.all hb) hT
    clear hb
    have eT0 := bT.c0
    have eT1 := bT.c1
    have lT := bT.lt
    go_wp2_with fail
    clear eT0 eT1 lT
    go_ret
    exact Gives.mk (ret_bool HS.out.symm) hW
  · replace h1 : t.small = false := by simpa using h1
    have HS : Hid (Tm.valid t = false) := by simp [Hid, Tm.valid, h1]
    refine (l2Fits_any t hT hbk).mono ?_
    rintro e w1 ⟨_, rfl, hb, rfl⟩
    replace hW := hW.trans (hb.mono hW.size)
    replace bT := bT.keep hb
    replace hT := Tm.at_keep (Keeps.all hb) hT
    clear hb
    rw [h1]
    have eT0 := bT.c0
    have eT1 := bT.c1
    have lT := bT.lt
    go_wp2_with fail
    clear eT0 eT1 lT
    go_ret
    exact Gives.mk (ret_bool HS.out.symm) hW

def Tm.isEq (t : Tm) : Bool := decide (t.name = eqSign)
theorem Tm.args_bulk (t : Tm) : Tm.bulks t.args ≤ t.bulk := by cases t; rw [Tm.bulk]; simp [Tm.args]
theorem Tm.namesAll_two {ts : List Tm} (h : ts.length = 2) : Tm.namesAll ts = ((ts[0]'(by omega)).names && (ts[1]'(by omega)).names) := by
  match ts, h with
  | [x, y], _ => simp [Tm.namesAll]

theorem Tm.expr_eq (t : Tm) : t.expr = (t.valid || (t.isEq && t.atom)) := by
  rw [Tm.expr, Tm.atom_eq, Tm.isEq]
  by_cases h : t.name = eqSign
  · simp [h]
  · simp only [h, if_false, decide_false, Bool.false_and, Bool.or_false]
    cases t.valid <;> simp

end Go.Proofs.YtooocakkjdhfiaaDoor
