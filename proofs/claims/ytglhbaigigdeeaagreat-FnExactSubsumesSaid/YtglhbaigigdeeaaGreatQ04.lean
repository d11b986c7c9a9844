/- Several texts in one file. -/
import Derived.Test.YtglhbaigigdeeaaGreatQ03
import GoSem.Op.String
import Derived.Test.YtglhbaigigdeeaaGreatQ02
import Derived.Test.YtglhbaigigdeeaaGreatRows
import Derived.Test.YtglhbaigigdeeaaGreatQ01
import Derived.WalkSpells
import Derived.WalkLawsBesides
/- Small terms, valid terms, valid atoms, expressions. -/
namespace Go.Proofs.YtglhbaigigdeeaaGreat
set_option maxRecDepth 100000
open Go.RowKit

theorem Tm.atom_eq (t : Tm) : t.atom = if t.name = eqSign then decide (t.args.length = 2) && t.small && Tm.namesAll t.args else symName t.name && t.valid := by
  cases t; rw [Tm.atom]; rfl

set_option maxHeartbeats 1000000 in
theorem isSmall_any (t : Tm) : PredIs 74 Tm.small t := by
  intro S c0 c1 w hT hbk
  obtain ⟨rfl, hn, a, cap, rfl⟩ := Tm.at_form hT
  have hW : Below w.heap.size w (w.alloc (.cells #[.string t.name, .slice a t.args.length cap] 56)) := (Below.refl _ _).alloc (Nat.le_refl _) _
  have bT : Box (w.alloc (.cells #[.string t.name, .slice a t.args.length cap] 56)) w.heap.size [.string t.name, .slice a t.args.length cap] := Box.new w _ _
  replace hT := Tm.at_keep (Keeps.all hW) hT
  go_enter Tryz.func74, Tryz.ntmps74
  go_wp2_with fail
  generalize (w.alloc (.cells #[.string t.name, .slice a t.args.length cap] 56)) = w0 at *
  refine (implSize_any t _ _ _ _ hT hbk).mono ?_
  rintro e w1 ⟨r, rfl, hu, hb⟩
  replace hW := hW.trans (hb.mono hW.size)
  replace bT := bT.keep hb
  replace hT := Tm.at_keep (Keeps.all hb) hT
  clear hb
  have eT0 := bT.c0
  have eT1 := bT.c1
  by_cases h30 : t.size ≤ 30
  · have HS : Hid (Tm.small t = decide (t.depth ≤ 8)) := by simp [Hid, Tm.small, h30]
    have h30' : (r : Int) ≤ 30 := by unfold Upto at hu; omega
    clear h30 hu
    go_wp2_with fail
    clear eT0 eT1
    refine (implDepth_any t _ _ _ _ hT hbk).mono ?_
    rintro e w2 ⟨_, rfl, hb, rfl⟩
    go_wp2_with fail
    go_ret
    exact Gives.mk (ret_bool (by rw [HS.out, Bool.eq_iff_iff]; simp; try omega)) (hW.trans (hb.mono hW.size))
  · have HS : Hid (Tm.small t = false) := by simp [Hid, Tm.small, h30]
    have h30' : ¬ (r : Int) ≤ 30 := by unfold Upto at hu; omega
    clear h30 hu
    go_wp2_with fail
    go_ret
    exact Gives.mk (ret_bool HS.out.symm) hW

set_option maxHeartbeats 1000000 in
theorem l2Fits_any (t : Tm) : PredIs 44 Tm.small t := by
  intro S c0 c1 w hT hbk
  obtain ⟨rfl, hn, a, cap, rfl⟩ := Tm.at_form hT
  have hW : Below w.heap.size w (w.alloc (.cells #[.string t.name, .slice a t.args.length cap] 56)) := (Below.refl _ _).alloc (Nat.le_refl _) _
  have bT : Box (w.alloc (.cells #[.string t.name, .slice a t.args.length cap] 56)) w.heap.size [.string t.name, .slice a t.args.length cap] := Box.new w _ _
  replace hT := Tm.at_keep (Keeps.all hW) hT
  go_enter Tryz.func44, Tryz.ntmps44
  go_wp2_with fail
  generalize (w.alloc (.cells #[.string t.name, .slice a t.args.length cap] 56)) = w0 at *
  refine (l2Many_any t 30 _ _ _ _ (by omega) hT hbk).mono ?_
  rintro e w1 ⟨r, rfl, hu, hb⟩
  replace hW := hW.trans (hb.mono hW.size)
  replace bT := bT.keep hb
  replace hT := Tm.at_keep (Keeps.all hb) hT
  clear hb
  have eT0 := bT.c0
  have eT1 := bT.c1
  by_cases h30 : t.size ≤ 30
  · have HS : Hid (Tm.small t = decide (t.depth ≤ 8)) := by simp [Hid, Tm.small, h30]
    have h30' : (r : Int) ≤ 30 := by unfold Upto at hu; omega
    clear h30 hu
    go_wp2_with fail
    clear eT0 eT1
    refine (l2Depth_any t _ _ _ _ hT hbk).mono ?_
    rintro e w2 ⟨_, rfl, hb, rfl⟩
    go_wp2_with fail
    go_ret
    exact Gives.mk (ret_bool (by rw [HS.out, Bool.eq_iff_iff]; simp; try omega)) (hW.trans (hb.mono hW.size))
  · have HS : Hid (Tm.small t = false) := by simp [Hid, Tm.small, h30]
    have h30' : ¬ (r : Int) ≤ 30 := by unfold Upto at hu; omega
    clear h30 hu
    go_wp2_with fail
    go_ret
    exact Gives.mk (ret_bool HS.out.symm) hW

set_option maxHeartbeats 1000000 in
theorem isValidTerm_any (t : Tm) : PredIs 77 Tm.valid t := by
  intro S c0 c1 w hT hbk
  obtain ⟨rfl, hn, a, cap, rfl⟩ := Tm.at_form hT
  have hW : Below w.heap.size w (w.alloc (.cells #[.string t.name, .slice a t.args.length cap] 56)) := (Below.refl _ _).alloc (Nat.le_refl _) _
  have bT : Box (w.alloc (.cells #[.string t.name, .slice a t.args.length cap] 56)) w.heap.size [.string t.name, .slice a t.args.length cap] := Box.new w _ _
  replace hT := Tm.at_keep (Keeps.all hW) hT
  go_enter Tryz.func77, Tryz.ntmps77
  go_wp2_with fail
  generalize (w.alloc (.cells #[.string t.name, .slice a t.args.length cap] 56)) = w0 at *
  by_cases h1 : t.small = true
  · have HS : Hid (Tm.valid t = t.names) := by simp [Hid, Tm.valid, h1]
    refine (isSmall_any t hT hbk).mono ?_
    rintro e w1 ⟨_, rfl, hb, rfl⟩
    replace hW := hW.trans (hb.mono hW.size)
    replace bT := bT.keep hb
    replace hT := Tm.at_keep (Keeps.all hb) hT
    clear hb
    rw [h1]
    have eT0 := bT.c0
    have eT1 := bT.c1
    have lT := bT.lt
    go_wp2_with fail
    clear eT0 eT1 lT
    clear h1
    refine (hasNames_any t hT hbk).mono ?_
    rintro e w1 ⟨_, rfl, hb, rfl⟩
    replace hW := hW.trans (hb.mono hW.size)
    replace bT := bT.keep hb
    replace hT := Tm.at_keep (Keeps.all hb) hT
    clear hb
    have eT0 := bT.c0
    have eT1 := bT.c1
    have lT := bT.lt
    go_wp2_with fail
    clear eT0 eT1 lT
    go_ret
    exact Gives.mk (ret_bool HS.out.symm) hW
  · replace h1 : t.small = false := by simpa using h1
    have HS : Hid (Tm.valid t = false) := by simp [Hid, Tm.valid, h1]
    refine (isSmall_any t hT hbk).mono ?_
    rintro e w1 ⟨_, rfl, hb, rfl⟩
    replace hW := hW.trans (hb.mono hW.size)
    replace bT := bT.keep hb
    replace hT := Tm.at_keep (Keeps.all hb) hT
    clear hb
    rw [h1]
    have eT0 := bT.c0
    have eT1 := bT.c1
    have lT := bT.lt
    go_wp2_with fail
    clear eT0 eT1 lT
    go_ret
    exact Gives.mk (ret_bool HS.out.symm) hW

set_option maxHeartbeats 1000000 in
theorem l2Good_any (t : Tm) : PredIs 47 Tm.valid t := by
  intro S c0 c1 w hT hbk
  obtain ⟨rfl, hn, a, cap, rfl⟩ := Tm.at_form hT
  have hW : Below w.heap.size w (w.alloc (.cells #[.string t.name, .slice a t.args.length cap] 56)) := (Below.refl _ _).alloc (Nat.le_refl _) _
  have bT : Box (w.alloc (.cells #[.string t.name, .slice a t.args.length cap] 56)) w.heap.size [.string t.name, .slice a t.args.length cap] := Box.new w _ _
  replace hT := Tm.at_keep (Keeps.all hW) hT
  go_enter Tryz.func47, Tryz.ntmps47
  go_wp2_with fail
  generalize (w.alloc (.cells #[.string t.name, .slice a t.args.length cap] 56)) = w0 at *
  by_cases h1 : t.small = true
  · have HS : Hid (Tm.valid t = t.names) := by simp [Hid, Tm.valid, h1]
    refine (l2Fits_any t hT hbk).mono ?_
    rintro e w1 ⟨_, rfl, hb, rfl⟩
    replace hW := hW.trans (hb.mono hW.size)
    replace bT := bT.keep hb
    replace hT := Tm.at_keep (Keeps.all hb) hT
    clear hb
    rw [h1]
    have eT0 := bT.c0
    have eT1 := bT.c1
    have lT := bT.lt
    go_wp2_with fail
    clear eT0 eT1 lT
    clear h1
    refine (l2Nodes_any t hT hbk).mono ?_
    rintro e w1 ⟨_, rfl, hb, rfl⟩
    replace hW := hW.trans (hb.mono hW.size)
    replace bT := bT.keep hb
    replace hT := Tm.at_keep (Keeps.all hb) hT
    clear hb
    have eT0 := bT.c0
    have eT1 := bT.c1
    have lT := bT.lt
    go_wp2_with fail
    clear eT0 eT1 lT
    go_ret
    exact Gives.mk (ret_bool HS.out.symm) hW
  · replace h1 : t.small = false := by simpa using h1
    have HS : Hid (Tm.valid t = false) := by simp [Hid, Tm.valid, h1]
    refine (l2Fits_any t hT hbk).mono ?_
    rintro e w1 ⟨_, rfl, hb, rfl⟩
    replace hW := hW.trans (hb.mono hW.size)
    replace bT := bT.keep hb
    replace hT := Tm.at_keep (Keeps.all hb) hT
    clear hb
    rw [h1]
    have eT0 := bT.c0
    have eT1 := bT.c1
    have lT := bT.lt
    go_wp2_with fail
    clear eT0 eT1 lT
    go_ret
    exact Gives.mk (ret_bool HS.out.symm) hW

def Tm.isEq (t : Tm) : Bool := decide (t.name = eqSign)
theorem isEquality_any (t : Tm) : PredIs 73 Tm.isEq t := by
  intro S c0 c1 w hT hbk
  have HE : Hid (Tm.isEq t = (t.name.toList == [61])) := by
    have h : ([61] : List UInt8) = eqSign.toList := by rw [ByteArray.toList_eq]; rfl
    rw [Hid, h, toList_beq]; rfl
  obtain ⟨rfl, hn, a, cap, rfl⟩ := Tm.at_form hT
  have hW : Below w.heap.size w (w.alloc (.cells #[.string t.name, .slice a t.args.length cap] 56)) := (Below.refl _ _).alloc (Nat.le_refl _) _
  have bT : Box (w.alloc (.cells #[.string t.name, .slice a t.args.length cap] 56)) w.heap.size [.string t.name, .slice a t.args.length cap] := Box.new w _ _
  replace hT := Tm.at_keep (Keeps.all hW) hT
  go_enter Tryz.func73, Tryz.ntmps73
  go_wp2_with fail
  generalize (w.alloc (.cells #[.string t.name, .slice a t.args.length cap] 56)) = w0 at *
  go_ret
  exact Gives.mk (ret_bool HE.out.symm) hW

theorem Tm.args_bulk (t : Tm) : Tm.bulks t.args ≤ t.bulk := by cases t; rw [Tm.bulk]; simp [Tm.args]
theorem Tm.namesAll_two {ts : List Tm} (h : ts.length = 2) : Tm.namesAll ts = ((ts[0]'(by omega)).names && (ts[1]'(by omega)).names) := by
  match ts, h with
  | [x, y], _ => simp [Tm.namesAll]

set_option maxHeartbeats 2000000 in
theorem isValidAtom_any (t : Tm) : PredIs 52 Tm.atom t := by
  intro S c0 c1 w hT hbk
  by_cases he : t.isEq = true
  · have hne : t.name = eqSign := by simpa [Tm.isEq] using he
    have HA : Hid (t.atom = (decide (t.args.length = 2) && t.small && Tm.namesAll t.args)) := by rw [Hid, Tm.atom_eq, if_pos hne]
    have hq : (t.name.toList == [61]) = true := by
      have h : ([61] : List UInt8) = eqSign.toList := by rw [ByteArray.toList_eq]; rfl
      rw [h, toList_beq, hne]; simp
    clear hne
    by_cases hl : t.args.length = 2
    · have hl2 : ((t.args.length : Int) == 2) = true := by rw [beq_iff_eq]; omega
      have HL := hid hl
      clear hl
      have hn2 : 2 ≤ t.args.length := by have := HL.out; omega
      obtain ⟨rfl, hn, a, cap, rfl⟩ := Tm.at_form hT
      have hW : Below w.heap.size w (w.alloc (.cells #[.string t.name, .slice a t.args.length cap] 56)) := (Below.refl _ _).alloc (Nat.le_refl _) _
      have bT : Box (w.alloc (.cells #[.string t.name, .slice a t.args.length cap] 56)) w.heap.size [.string t.name, .slice a t.args.length cap] := Box.new w _ _
      replace hT := Tm.at_keep (Keeps.all hW) hT
      go_enter Tryz.func52, Tryz.ntmps52
      go_wp2_with fail
      generalize (w.alloc (.cells #[.string t.name, .slice a t.args.length cap] 56)) = w0 at *
      refine (isEquality_any t hT hbk).mono ?_
      rintro e w1 ⟨_, rfl, hb, rfl⟩
      replace hW := hW.trans (hb.mono hW.size)
      replace bT := bT.keep hb
      replace hT := Tm.at_keep (Keeps.all hb) hT
      clear hb
      rw [he]
      have eT0 := bT.c0
      have eT1 := bT.c1
      have lT := bT.lt
      go_wp2_with fail
      clear eT0 eT1 lT
      clear he hq hl2
      by_cases hsm : t.small = true
      · refine (isSmall_any t hT hbk).mono ?_
        rintro e w1 ⟨_, rfl, hb, rfl⟩
        replace hW := hW.trans (hb.mono hW.size)
        replace bT := bT.keep hb
        replace hT := Tm.at_keep (Keeps.all hb) hT
        clear hb
        rw [hsm]
        have hnn : t.args ≠ [] := by intro e; rw [e] at hn2; simp at hn2
        have i0 : 0 < t.args.length := by omega
        have i1 : 1 < t.args.length := by omega
        obtain ⟨b, off, rfl, hS, hbl, hrr⟩ := Tm.sd_get hT.2 hnn
        obtain ⟨x0, x1, q0, q1, q2⟩ := hrr 0 i0
        obtain ⟨y0, y1, r0, r1, r2⟩ := hrr 1 i1
        clear hrr
        obtain ⟨rfl, -, xa, xc, rfl⟩ := Tm.at_form q2
        obtain ⟨rfl, -, ya, yc, rfl⟩ := Tm.at_form r2
        simp only [Nat.zero_mul, Nat.add_zero, Nat.one_mul] at q0 q1 r0 r1
        have hb0 : t.args[0].bulk ≤ 1048576 := by have := Tm.bulk_at i0; have := Tm.args_bulk t; omega
        have hb1 : t.args[1].bulk ≤ 1048576 := by have := Tm.bulk_at i1; have := Tm.args_bulk t; omega
        have j0 : (0 : Int) < t.args.length := by omega
        have j1 : (1 : Int) < t.args.length := by omega
        have HB : Hid (t.atom = (t.args[0].names && t.args[1].names)) := by
          rw [Hid, HA.out, hsm, Tm.namesAll_two HL.out]; simp [HL.out]
        clear hsm
        have eT0 := bT.c0
        have eT1 := bT.c1
        have lT := bT.lt
        go_wp2_with fail
        clear eT0 eT1 lT
        have HX := hid q0
        refine (hasNames_any (t.args[0]) q2 hb0).mono ?_
        rintro e w2 ⟨_, rfl, hb, rfl⟩
        replace hW := hW.trans (hb.mono hW.size)
        replace bT := bT.keep hb
        replace r0 := (hb.cell (p := ⟨b, off + 2, none⟩) hbl).trans r0
        replace r1 := (hb.cell (p := ⟨b, off + 2 + 1, none⟩) hbl).trans r1
        replace r2 := Tm.at_keep (Keeps.all hb) r2
        clear hb q0 q1 q2 HX
        by_cases hp : t.args[0].names = true
        · have HC : Hid (t.atom = t.args[1].names) := by rw [Hid, HB.out, hp]; rfl
          rw [hp]
          clear hp
          have eT0 := bT.c0
          have eT1 := bT.c1
          have lT := bT.lt
          go_wp2_with fail
          clear eT0 eT1 lT
          refine (hasNames_any (t.args[1]) r2 hb1).mono ?_
          rintro e w3 ⟨_, rfl, hb, rfl⟩
          go_wp2_with fail
          go_ret
          exact Gives.mk (ret_bool HC.out.symm) (hW.trans (hb.mono hW.size))
        · replace hp : t.args[0].names = false := by simpa using hp
          have HC : Hid (t.atom = false) := by rw [Hid, HB.out, hp]; rfl
          rw [hp]
          clear hp
          have eT0 := bT.c0
          have eT1 := bT.c1
          go_wp2_with fail
          go_ret
          exact Gives.mk (ret_bool HC.out.symm) hW
      · replace hsm : t.small = false := by simpa using hsm
        have HS : Hid (t.atom = false) := by rw [Hid, HA.out, hsm]; simp
        refine (isSmall_any t hT hbk).mono ?_
        rintro e w1 ⟨_, rfl, hb, rfl⟩
        replace hW := hW.trans (hb.mono hW.size)
        replace bT := bT.keep hb
        replace hT := Tm.at_keep (Keeps.all hb) hT
        clear hb
        rw [hsm]
        have eT0 := bT.c0
        have eT1 := bT.c1
        have lT := bT.lt
        go_wp2_with fail
        clear eT0 eT1 lT
        go_ret
        exact Gives.mk (ret_bool HS.out.symm) hW
    · have hl2 : ((t.args.length : Int) == 2) = false := by rw [beq_eq_false_iff_ne]; omega
      have HS : Hid (t.atom = false) := by rw [Hid, HA.out]; simp [hl]
      clear hl
      obtain ⟨rfl, hn, a, cap, rfl⟩ := Tm.at_form hT
      have hW : Below w.heap.size w (w.alloc (.cells #[.string t.name, .slice a t.args.length cap] 56)) := (Below.refl _ _).alloc (Nat.le_refl _) _
      have bT : Box (w.alloc (.cells #[.string t.name, .slice a t.args.length cap] 56)) w.heap.size [.string t.name, .slice a t.args.length cap] := Box.new w _ _
      replace hT := Tm.at_keep (Keeps.all hW) hT
      go_enter Tryz.func52, Tryz.ntmps52
      go_wp2_with fail
      generalize (w.alloc (.cells #[.string t.name, .slice a t.args.length cap] 56)) = w0 at *
      refine (isEquality_any t hT hbk).mono ?_
      rintro e w1 ⟨_, rfl, hb, rfl⟩
      replace hW := hW.trans (hb.mono hW.size)
      replace bT := bT.keep hb
      replace hT := Tm.at_keep (Keeps.all hb) hT
      clear hb
      rw [he]
      have eT0 := bT.c0
      have eT1 := bT.c1
      have lT := bT.lt
      go_wp2_with fail
      clear eT0 eT1 lT
      go_ret
      exact Gives.mk (ret_bool HS.out.symm) hW
  · replace he : t.isEq = false := by simpa using he
    have hne : ¬ t.name = eqSign := by simpa [Tm.isEq] using he
    have HA : Hid (t.atom = (symName t.name && t.valid)) := by rw [Hid, Tm.atom_eq, if_neg hne]
    have hq : (t.name.toList == [61]) = false := by
      have h : ([61] : List UInt8) = eqSign.toList := by rw [ByteArray.toList_eq]; rfl
      rw [h]; exact toList_ne hne
    clear hne
    obtain ⟨rfl, hn, a, cap, rfl⟩ := Tm.at_form hT
    have hW : Below w.heap.size w (w.alloc (.cells #[.string t.name, .slice a t.args.length cap] 56)) := (Below.refl _ _).alloc (Nat.le_refl _) _
    have bT : Box (w.alloc (.cells #[.string t.name, .slice a t.args.length cap] 56)) w.heap.size [.string t.name, .slice a t.args.length cap] := Box.new w _ _
    replace hT := Tm.at_keep (Keeps.all hW) hT
    go_enter Tryz.func52, Tryz.ntmps52
    go_wp2_with fail
    generalize (w.alloc (.cells #[.string t.name, .slice a t.args.length cap] 56)) = w0 at *
    refine (isEquality_any t hT hbk).mono ?_
    rintro e w1 ⟨_, rfl, hb, rfl⟩
    replace hW := hW.trans (hb.mono hW.size)
    replace bT := bT.keep hb
    replace hT := Tm.at_keep (Keeps.all hb) hT
    clear hb
    rw [he]
    have eT0 := bT.c0
    have eT1 := bT.c1
    have lT := bT.lt
    go_wp2_with fail
    clear eT0 eT1 lT
    clear he hq
    refine (isSymbol_any t.name hn _).mono ?_
    rintro e w1 ⟨_, rfl, hb, rfl⟩
    replace hW := hW.trans (hb.mono hW.size)
    replace bT := bT.keep hb
    replace hT := Tm.at_keep (Keeps.all hb) hT
    clear hb
    by_cases hsy : symName t.name = true
    · have HS : Hid (t.atom = t.valid) := by rw [Hid, HA.out, hsy]; rfl
      rw [hsy]
      clear hsy
      have eT0 := bT.c0
      have eT1 := bT.c1
      have lT := bT.lt
      go_wp2_with fail
      clear eT0 eT1 lT
      refine (isValidTerm_any t hT hbk).mono ?_
      rintro e w1 ⟨_, rfl, hb, rfl⟩
      replace hW := hW.trans (hb.mono hW.size)
      replace bT := bT.keep hb
      replace hT := Tm.at_keep (Keeps.all hb) hT
      clear hb
      have eT0 := bT.c0
      have eT1 := bT.c1
      have lT := bT.lt
      go_wp2_with fail
      clear eT0 eT1 lT
      go_ret
      exact Gives.mk (ret_bool HS.out.symm) hW
    · replace hsy : symName t.name = false := by simpa using hsy
      have HS : Hid (t.atom = false) := by rw [Hid, HA.out, hsy]; rfl
      rw [hsy]
      clear hsy
      have eT0 := bT.c0
      have eT1 := bT.c1
      go_wp2_with fail
      go_ret
      exact Gives.mk (ret_bool HS.out.symm) hW

set_option maxHeartbeats 2000000 in
theorem l2Atom_any (t : Tm) : PredIs 22 Tm.atom t := by
  intro S c0 c1 w hT hbk
  by_cases he : t.isEq = true
  · have hne : t.name = eqSign := by simpa [Tm.isEq] using he
    have HA : Hid (t.atom = (decide (t.args.length = 2) && t.small && Tm.namesAll t.args)) := by rw [Hid, Tm.atom_eq, if_pos hne]
    have hq : (t.name.toList == [61]) = true := by
      have h : ([61] : List UInt8) = eqSign.toList := by rw [ByteArray.toList_eq]; rfl
      rw [h, toList_beq, hne]; simp
    clear hne
    by_cases hl : t.args.length = 2
    · have hl2 : ((t.args.length : Int) == 2) = true := by rw [beq_iff_eq]; omega
      have HL := hid hl
      clear hl
      have hn2 : 2 ≤ t.args.length := by have := HL.out; omega
      obtain ⟨rfl, hn, a, cap, rfl⟩ := Tm.at_form hT
      have hW : Below w.heap.size w (w.alloc (.cells #[.string t.name, .slice a t.args.length cap] 56)) := (Below.refl _ _).alloc (Nat.le_refl _) _
      have bT : Box (w.alloc (.cells #[.string t.name, .slice a t.args.length cap] 56)) w.heap.size [.string t.name, .slice a t.args.length cap] := Box.new w _ _
      replace hT := Tm.at_keep (Keeps.all hW) hT
      go_enter Tryz.func22, Tryz.ntmps22
      go_wp2_with fail
      generalize (w.alloc (.cells #[.string t.name, .slice a t.args.length cap] 56)) = w0 at *
      have eT0 := bT.c0
      have eT1 := bT.c1
      skip
      clear eT0 eT1
      clear he hq hl2
      by_cases hsm : t.small = true
      · refine (l2Fits_any t hT hbk).mono ?_
        rintro e w1 ⟨_, rfl, hb, rfl⟩
        replace hW := hW.trans (hb.mono hW.size)
        replace bT := bT.keep hb
        replace hT := Tm.at_keep (Keeps.all hb) hT
        clear hb
        rw [hsm]
        have hnn : t.args ≠ [] := by intro e; rw [e] at hn2; simp at hn2
        have i0 : 0 < t.args.length := by omega
        have i1 : 1 < t.args.length := by omega
        obtain ⟨b, off, rfl, hS, hbl, hrr⟩ := Tm.sd_get hT.2 hnn
        obtain ⟨x0, x1, q0, q1, q2⟩ := hrr 0 i0
        obtain ⟨y0, y1, r0, r1, r2⟩ := hrr 1 i1
        clear hrr
        obtain ⟨rfl, -, xa, xc, rfl⟩ := Tm.at_form q2
        obtain ⟨rfl, -, ya, yc, rfl⟩ := Tm.at_form r2
        simp only [Nat.zero_mul, Nat.add_zero, Nat.one_mul] at q0 q1 r0 r1
        have hb0 : t.args[0].bulk ≤ 1048576 := by have := Tm.bulk_at i0; have := Tm.args_bulk t; omega
        have hb1 : t.args[1].bulk ≤ 1048576 := by have := Tm.bulk_at i1; have := Tm.args_bulk t; omega
        have j0 : (0 : Int) < t.args.length := by omega
        have j1 : (1 : Int) < t.args.length := by omega
        have HB : Hid (t.atom = (t.args[0].names && t.args[1].names)) := by
          rw [Hid, HA.out, hsm, Tm.namesAll_two HL.out]; simp [HL.out]
        clear hsm
        have eT0 := bT.c0
        have eT1 := bT.c1
        have lT := bT.lt
        go_wp2_with fail
        clear eT0 eT1 lT
        have HX := hid q0
        refine (l2Nodes_any (t.args[0]) q2 hb0).mono ?_
        rintro e w2 ⟨_, rfl, hb, rfl⟩
        replace hW := hW.trans (hb.mono hW.size)
        replace bT := bT.keep hb
        replace r0 := (hb.cell (p := ⟨b, off + 2, none⟩) hbl).trans r0
        replace r1 := (hb.cell (p := ⟨b, off + 2 + 1, none⟩) hbl).trans r1
        replace r2 := Tm.at_keep (Keeps.all hb) r2
        clear hb q0 q1 q2 HX
        by_cases hp : t.args[0].names = true
        · have HC : Hid (t.atom = t.args[1].names) := by rw [Hid, HB.out, hp]; rfl
          rw [hp]
          clear hp
          have eT0 := bT.c0
          have eT1 := bT.c1
          have lT := bT.lt
          go_wp2_with fail
          clear eT0 eT1 lT
          refine (l2Nodes_any (t.args[1]) r2 hb1).mono ?_
          rintro e w3 ⟨_, rfl, hb, rfl⟩
          go_wp2_with fail
          go_ret
          exact Gives.mk (ret_bool HC.out.symm) (hW.trans (hb.mono hW.size))
        · replace hp : t.args[0].names = false := by simpa using hp
          have HC : Hid (t.atom = false) := by rw [Hid, HB.out, hp]; rfl
          rw [hp]
          clear hp
          have eT0 := bT.c0
          have eT1 := bT.c1
          go_wp2_with fail
          go_ret
          exact Gives.mk (ret_bool HC.out.symm) hW
      · replace hsm : t.small = false := by simpa using hsm
        have HS : Hid (t.atom = false) := by rw [Hid, HA.out, hsm]; simp
        refine (l2Fits_any t hT hbk).mono ?_
        rintro e w1 ⟨_, rfl, hb, rfl⟩
        replace hW := hW.trans (hb.mono hW.size)
        replace bT := bT.keep hb
        replace hT := Tm.at_keep (Keeps.all hb) hT
        clear hb
        rw [hsm]
        have eT0 := bT.c0
        have eT1 := bT.c1
        have lT := bT.lt
        go_wp2_with fail
        clear eT0 eT1 lT
        go_ret
        exact Gives.mk (ret_bool HS.out.symm) hW
    · have hl2 : ((t.args.length : Int) == 2) = false := by rw [beq_eq_false_iff_ne]; omega
      have HS : Hid (t.atom = false) := by rw [Hid, HA.out]; simp [hl]
      clear hl
      obtain ⟨rfl, hn, a, cap, rfl⟩ := Tm.at_form hT
      have hW : Below w.heap.size w (w.alloc (.cells #[.string t.name, .slice a t.args.length cap] 56)) := (Below.refl _ _).alloc (Nat.le_refl _) _
      have bT : Box (w.alloc (.cells #[.string t.name, .slice a t.args.length cap] 56)) w.heap.size [.string t.name, .slice a t.args.length cap] := Box.new w _ _
      replace hT := Tm.at_keep (Keeps.all hW) hT
      go_enter Tryz.func22, Tryz.ntmps22
      go_wp2_with fail
      generalize (w.alloc (.cells #[.string t.name, .slice a t.args.length cap] 56)) = w0 at *
      have eT0 := bT.c0
      have eT1 := bT.c1
      skip
      clear eT0 eT1
      go_ret
      exact Gives.mk (ret_bool HS.out.symm) hW
  · replace he : t.isEq = false := by simpa using he
    have hne : ¬ t.name = eqSign := by simpa [Tm.isEq] using he
    have HA : Hid (t.atom = (symName t.name && t.valid)) := by rw [Hid, Tm.atom_eq, if_neg hne]
    have hq : (t.name.toList == [61]) = false := by
      have h : ([61] : List UInt8) = eqSign.toList := by rw [ByteArray.toList_eq]; rfl
      rw [h]; exact toList_ne hne
    clear hne
    obtain ⟨rfl, hn, a, cap, rfl⟩ := Tm.at_form hT
    have hW : Below w.heap.size w (w.alloc (.cells #[.string t.name, .slice a t.args.length cap] 56)) := (Below.refl _ _).alloc (Nat.le_refl _) _
    have bT : Box (w.alloc (.cells #[.string t.name, .slice a t.args.length cap] 56)) w.heap.size [.string t.name, .slice a t.args.length cap] := Box.new w _ _
    replace hT := Tm.at_keep (Keeps.all hW) hT
    go_enter Tryz.func22, Tryz.ntmps22
    go_wp2_with fail
    generalize (w.alloc (.cells #[.string t.name, .slice a t.args.length cap] 56)) = w0 at *
    have eT0 := bT.c0
    have eT1 := bT.c1
    skip
    clear eT0 eT1
    clear he hq
    refine (l2Symbol_any t.name hn _).mono ?_
    rintro e w' ⟨rfl, rfl⟩
    by_cases hsy : symName t.name = true
    · have HS : Hid (t.atom = t.valid) := by rw [Hid, HA.out, hsy]; rfl
      rw [hsy]
      clear hsy
      have eT0 := bT.c0
      have eT1 := bT.c1
      have lT := bT.lt
      go_wp2_with fail
      clear eT0 eT1 lT
      refine (l2Good_any t hT hbk).mono ?_
      rintro e w1 ⟨_, rfl, hb, rfl⟩
      replace hW := hW.trans (hb.mono hW.size)
      replace bT := bT.keep hb
      replace hT := Tm.at_keep (Keeps.all hb) hT
      clear hb
      have eT0 := bT.c0
      have eT1 := bT.c1
      have lT := bT.lt
      go_wp2_with fail
      clear eT0 eT1 lT
      go_ret
      exact Gives.mk (ret_bool HS.out.symm) hW
    · replace hsy : symName t.name = false := by simpa using hsy
      have HS : Hid (t.atom = false) := by rw [Hid, HA.out, hsy]; rfl
      rw [hsy]
      clear hsy
      have eT0 := bT.c0
      have eT1 := bT.c1
      go_wp2_with fail
      go_ret
      exact Gives.mk (ret_bool HS.out.symm) hW

theorem Tm.expr_eq (t : Tm) : t.expr = (t.valid || (t.isEq && t.atom)) := by
  rw [Tm.expr, Tm.atom_eq, Tm.isEq]
  by_cases h : t.name = eqSign
  · simp [h]
  · simp only [h, if_false, decide_false, Bool.false_and, Bool.or_false]
    cases t.valid <;> simp

end Go.Proofs.YtglhbaigigdeeaaGreat
/- The order of strings, plain. -/
namespace Go.Proofs.YtglhbaigigdeeaaGreat
set_option maxRecDepth 100000

theorem u8_lt_irrefl (a : UInt8) : ¬ a < a := by rw [UInt8.lt_iff_toNat_lt]; omega
theorem u8_tri {a b : UInt8} (h : ¬ a < b) (h' : ¬ b < a) : a = b := by rw [UInt8.lt_iff_toNat_lt] at h h'; exact UInt8.toNat_inj.1 (by omega)
theorem u8_asymm {a b : UInt8} (h : a < b) : ¬ b < a := by rw [UInt8.lt_iff_toNat_lt] at h ⊢; omega

/-- one of two strings is less, or they are one -/
theorem bl_tri : ∀ x y : List UInt8, Op.bytesLess x y = !(Op.bytesLess y x || y == x)
  | [], [] => by simp [Op.bytesLess]
  | [], b :: y => by simp [Op.bytesLess]
  | a :: x, [] => by simp [Op.bytesLess]
  | a :: x, b :: y => by
    have ih := bl_tri x y
    by_cases h : a < b
    · have h2 := u8_asymm h
      have h3 : a ≠ b := fun e => u8_lt_irrefl b (e ▸ h)
      simp [Op.bytesLess, h, h2, h3.symm]
    · by_cases h2 : b < a
      · have h3 : a ≠ b := fun e => u8_lt_irrefl b (e ▸ h2)
        simp [Op.bytesLess, h, h2, h3]
      · have h3 := u8_tri h h2
        subst h3
        simp [Op.bytesLess, h, ih]
theorem bl_irrefl (x : List UInt8) : Op.bytesLess x x = false := by
  have := bl_tri x x
  simpa using this
/-- less in one sense: not less, nor the same, in the other -/
theorem bl_lt {x y : List UInt8} (h : Op.bytesLess x y = true) : Op.bytesLess y x = false ∧ (y == x) = false := by
  have := bl_tri x y
  rw [h] at this
  simpa using this.symm
theorem bl_ge {x y : List UInt8} (h : Op.bytesLess x y = false) : (Op.bytesLess y x || y == x) = true := by
  have := bl_tri x y
  rw [h] at this
  cases h1 : Op.bytesLess y x || y == x
  · rw [h1] at this; exact absurd this (by simp)
  · rfl
end Go.Proofs.YtglhbaigigdeeaaGreat
/- Terms are ordered: plain. -/
namespace Go.Proofs.YtglhbaigigdeeaaGreat
set_option maxRecDepth 100000
open Go.RowKit

def strCmp (a b : ByteArray) : Int := if Op.bytesLess a.toList b.toList then -1 else if a = b then 0 else 1
def numCmp (a b : Int) : Int := if a < b then -1 else if b < a then 1 else 0
/-- the first, if it tells; else the second -/
def orZ (x y : Int) : Int := if x = 0 then y else x
mutual
def Tm.cmp : Tm → Tm → Int
  | .node n ts, .node m us => if (varName n && !varName m) = true then -1 else if (varName m && !varName n) = true then 1 else orZ (strCmp n m) (orZ (numCmp ts.length us.length) (Tm.cmps ts us))
def Tm.cmps : List Tm → List Tm → Int
  | [], _ => 0
  | _, [] => 0
  | t :: ts, u :: us => orZ (Tm.cmp t u) (Tm.cmps ts us)
end
theorem Tm.cmp_eq (t u : Tm) : Tm.cmp t u = if (varName t.name && !varName u.name) = true then -1 else if (varName u.name && !varName t.name) = true then 1 else orZ (strCmp t.name u.name) (orZ (numCmp t.args.length u.args.length) (Tm.cmps t.args u.args)) := by
  cases t; cases u; rw [Tm.cmp]; rfl
theorem Tm.cmps_drop {ts us : List Tm} {k : Nat} (h : k < ts.length) (h' : k < us.length) : Tm.cmps (ts.drop k) (us.drop k) = orZ (Tm.cmp ts[k] us[k]) (Tm.cmps (ts.drop (k + 1)) (us.drop (k + 1))) := by
  rw [List.drop_eq_getElem_cons h, List.drop_eq_getElem_cons h', Tm.cmps]
theorem Tm.cmps_end (ts us : List Tm) : Tm.cmps (ts.drop ts.length) us = 0 := by simp [Tm.cmps]
theorem strCmp_self (a : ByteArray) : strCmp a a = 0 := by simp [strCmp, bl_irrefl]
theorem strCmp_ne {a b : ByteArray} (h : ¬ a = b) : ¬ strCmp a b = 0 := by
  unfold strCmp; rw [if_neg h]; split <;> decide
theorem strCmp_in (a b : ByteArray) : -1 ≤ strCmp a b ∧ strCmp a b ≤ 1 := by
  unfold strCmp
  split
  · decide
  · split <;> decide
theorem numCmp_in (a b : Int) : -1 ≤ numCmp a b ∧ numCmp a b ≤ 1 := by
  unfold numCmp
  split
  · decide
  · split <;> decide
theorem orZ_in {x y : Int} (h : -1 ≤ x ∧ x ≤ 1) (k : -1 ≤ y ∧ y ≤ 1) : -1 ≤ orZ x y ∧ orZ x y ≤ 1 := by unfold orZ; split <;> assumption
theorem Tm.cmps_in : ∀ (ts us : List Tm), (∀ t ∈ ts, ∀ u, -1 ≤ Tm.cmp t u ∧ Tm.cmp t u ≤ 1) → -1 ≤ Tm.cmps ts us ∧ Tm.cmps ts us ≤ 1
  | [], _, _ => by simp [Tm.cmps]
  | _ :: _, [], _ => by simp [Tm.cmps]
  | t :: ts, u :: us, h => by rw [Tm.cmps]; exact orZ_in (h t (by simp) u) (Tm.cmps_in ts us fun a ha => h a (by simp [ha]))
theorem Tm.cmp_in (t : Tm) : ∀ u, -1 ≤ Tm.cmp t u ∧ Tm.cmp t u ≤ 1 := by
  refine Tm.ind (P := fun t => ∀ u, -1 ≤ Tm.cmp t u ∧ Tm.cmp t u ≤ 1) (fun n ts ih u => ?_) t
  obtain ⟨m, us⟩ := u
  rw [Tm.cmp]
  split
  · decide
  · split
    · decide
    · exact orZ_in (strCmp_in _ _) (orZ_in (numCmp_in _ _) (Tm.cmps_in ts us ih))

mutual
/-- every name tells by its first byte whether it is a variable's -/
def Tm.nice : Tm → Bool
  | .node n ts => decide (1 ≤ n.size) && decide (upB (byteAt n 0) = varName n) && Tm.nices ts
def Tm.nices : List Tm → Bool
  | [] => true
  | t :: ts => Tm.nice t && Tm.nices ts
end
theorem Tm.nices_iff (ts : List Tm) : Tm.nices ts = true ↔ ∀ t ∈ ts, t.nice = true := by
  induction ts with
  | nil => simp [Tm.nices]
  | cons t ts ih => simp [Tm.nices, ih]
theorem Tm.nice_iff (t : Tm) : t.nice = true ↔ 1 ≤ t.name.size ∧ upB (byteAt t.name 0) = varName t.name ∧ ∀ a ∈ t.args, a.nice = true := by
  cases t; simp [Tm.nice, Tm.nices_iff, Tm.name, Tm.args, and_assoc]
theorem varName_first {n : ByteArray} (h : varName n = true) : 1 ≤ n.size ∧ upB (byteAt n 0) = true := by
  simp only [varName, Bool.and_eq_true, decide_eq_true_eq] at h
  obtain ⟨⟨h0, h1⟩, _⟩ := h
  refine ⟨h1, ?_⟩
  unfold allCh at h0
  rw [List.all_eq_true] at h0
  have := h0 0 (List.mem_range.2 (by omega))
  simpa [varCh] using this
theorem symName_first {n : ByteArray} (h : symName n = true) : 1 ≤ n.size ∧ upB (byteAt n 0) = false := by
  simp only [symName, Bool.and_eq_true, decide_eq_true_eq] at h
  obtain ⟨⟨⟨h0, h1⟩, _⟩, _⟩ := h
  refine ⟨h1, ?_⟩
  unfold allCh at h0
  rw [List.all_eq_true] at h0
  have := h0 0 (List.mem_range.2 (by omega))
  have hl : lowB (byteAt n 0) = true := by simpa [symCh] using this
  rw [lowB_iff] at hl
  rw [Bool.eq_false_iff]; intro e
  rw [upB_iff] at e
  omega
theorem varName_no {n : ByteArray} (h : upB (byteAt n 0) = false) : varName n = false := by
  rw [Bool.eq_false_iff]; intro e
  rw [(varName_first e).2] at h
  exact absurd h (by simp)
theorem Tm.names_nice (t : Tm) : t.names = true → t.nice = true := by
  refine Tm.ind (P := fun t => t.names = true → t.nice = true) (fun n ts ih h => ?_) t
  rw [Tm.nice_iff]
  simp only [Tm.name, Tm.args]
  rw [Tm.names] at h
  split at h
  · rename_i hv
    have := varName_first hv
    refine ⟨this.1, by rw [this.2, hv], ?_⟩
    cases ts
    · simp
    · simp at h
  · simp only [Bool.and_eq_true] at h
    have := symName_first h.1.1
    exact ⟨this.1, by rw [this.2, varName_no this.2], fun a ha => ih a ha ((Tm.namesAll_iff ts).1 h.2 a ha)⟩
theorem Tm.expr_nice {t : Tm} (h : t.expr = true) : t.nice = true := by
  rw [Tm.expr] at h
  rcases Bool.or_eq_true_iff.1 h with h | h
  · rw [Tm.valid, Bool.and_eq_true] at h
    exact Tm.names_nice t h.2
  · rw [Tm.atom_eq] at h
    split at h
    · rename_i he
      simp only [Bool.and_eq_true] at h
      rw [Tm.nice_iff, he]
      have hu : upB (byteAt eqSign 0) = false := by decide
      exact ⟨by decide, by rw [hu, varName_no hu], fun a ha => Tm.names_nice a ((Tm.namesAll_iff t.args).1 h.2 a ha)⟩
    · rw [Bool.and_eq_true, Tm.valid, Bool.and_eq_true] at h
      exact Tm.names_nice t h.2.2
end Go.Proofs.YtglhbaigigdeeaaGreat
/- Bindings and substitutions: as data, and how a law measures, copies and compares them. -/
namespace Go.Proofs.YtglhbaigigdeeaaGreat
set_option maxRecDepth 100000
open Go.RowKit Go.ChangeShapes Go.WideShapes

/-- a name and a term -/
structure Bnd where
  var : ByteArray
  term : Tm
def Bnd.cs (x : Bnd) : List D := [.str x.var, .str x.term.name, Tm.sd x.term.args]
def Bnd.bulk (x : Bnd) : Nat := x.var.size + x.term.bulk
def Bnd.eqb (x y : Bnd) : Bool := decide (x.var = y.var) && Tm.eqb x.term y.term
theorem Bnd.eqb_iff (x y : Bnd) : Bnd.eqb x y = true ↔ x = y := by
  obtain ⟨p, a⟩ := x
  obtain ⟨q, b⟩ := y
  simp [Bnd.eqb, Tm.eqb_iff]

/-- 3 cells read as an item -/
def Bnd.at (S : Nat → Prop) (w : World) (c0 c1 c2 : Value) (x : Bnd) : Prop := D.rd S w c0 (.str x.var) ∧ D.rd S w c1 (.str x.term.name) ∧ D.rd S w c2 (Tm.sd x.term.args)
theorem Bnd.at_keep {S : Nat → Prop} {w w' : World} {c0 c1 c2 : Value} {x : Bnd} (hk : Keeps S w w') (h : Bnd.at S w c0 c1 c2 x) : Bnd.at S w' c0 c1 c2 x :=
  ⟨D.rd_keep hk _ _ h.1, D.rd_keep hk _ _ h.2.1, D.rd_keep hk _ _ h.2.2⟩
theorem Bnd.at_mono {S S' : Nat → Prop} {w : World} {c0 c1 c2 : Value} {x : Bnd} (hs : ∀ b, S b → S' b) (h : Bnd.at S w c0 c1 c2 x) : Bnd.at S' w c0 c1 c2 x :=
  ⟨D.rd_mono hs _ _ h.1, D.rd_mono hs _ _ h.2.1, D.rd_mono hs _ _ h.2.2⟩
def Bnd.sd (xs : List Bnd) : D := slOf Bnd.cs xs
theorem Bnd.wide : Wide Bnd.cs 3 := fun x => by cases x; simp [Bnd.cs]
theorem Bnd.sd_is (xs : List Bnd) : Bnd.sd xs = slOf Bnd.cs xs := rfl
theorem Bnd.sd_form {S : Nat → Prop} {w : World} {v : Value} {xs : List Bnd} (h : D.rd S w v (Bnd.sd xs)) : ∃ a cap, v = .slice a xs.length cap ∧ xs.length ≤ big ∧ xs.length ≤ cap := slOf_form (Bnd.sd_is xs ▸ h)
theorem Bnd.at_form {S : Nat → Prop} {w : World} {c0 c1 c2 : Value} {x : Bnd} (h : Bnd.at S w c0 c1 c2 x) : c0 = .string x.var ∧ c1 = .string x.term.name ∧ (∃ a cap, c2 = .slice a x.term.args.length cap) :=
  ⟨by have q := h.1; rw [D.rd] at q; first | exact q | exact q.1, by have q := h.2.1; rw [D.rd] at q; first | exact q | exact q.1, by obtain ⟨a, cap, e, _⟩ := Tm.sd_form h.2.2; exact ⟨a, cap, e⟩⟩
theorem Bnd.cs_eq (x : Bnd) : Bnd.cs x = [(.str x.var), (.str x.term.name), (Tm.sd x.term.args)] := by cases x; simp [Bnd.cs]
theorem Bnd.sd_get {S : Nat → Prop} {w : World} {a : Option Addr} {n cap : Nat} {xs : List Bnd} (h : D.rd S w (.slice a n cap) (Bnd.sd xs)) (hne : xs ≠ []) : ∃ b off, a = some ⟨b, off, none⟩ ∧ S b ∧ b < w.heap.size ∧
    ∀ k (hk : k < xs.length), ∃ c0 c1 c2, w.cell? ⟨b, off + k * 3, none⟩ = some c0 ∧ w.cell? ⟨b, off + k * 3 + 1, none⟩ = some c1 ∧ w.cell? ⟨b, off + k * 3 + 2, none⟩ = some c2 ∧ Bnd.at S w c0 c1 c2 xs[k] := by
  rw [Bnd.sd_is] at h
  obtain ⟨b, off, q0, q1, q2, hr⟩ := slOf_get Bnd.wide (by decide) h hne
  refine ⟨b, off, q0, q1, q2, fun k hk => ?_⟩
  obtain ⟨c0, r0, s0⟩ := hr k hk 0 (.str xs[k].var) (by rw [Bnd.cs_eq]; rfl)
  obtain ⟨c1, r1, s1⟩ := hr k hk 1 (.str xs[k].term.name) (by rw [Bnd.cs_eq]; rfl)
  obtain ⟨c2, r2, s2⟩ := hr k hk 2 (Tm.sd xs[k].term.args) (by rw [Bnd.cs_eq]; rfl)
  exact ⟨c0, c1, c2, by rw [← r0]; congr 2, by rw [← r1]; congr 2, by rw [← r2]; congr 2, s0, s1, s2⟩
def Bnd.css (xs : List Bnd) : List D := xs.flatMap Bnd.cs
theorem Bnd.css_flat (xs : List Bnd) : Bnd.css xs = xs.flatMap Bnd.cs := rfl
theorem Bnd.css_length (xs : List Bnd) : (Bnd.css xs).length = xs.length * 3 := by rw [Bnd.css_flat]; exact flat_length Bnd.wide xs
theorem Bnd.css_ne {xs : List Bnd} (h : xs ≠ []) : Bnd.css xs ≠ [] := by rw [Bnd.css_flat]; exact flat_ne Bnd.wide (by decide) h
theorem Bnd.css_take_succ (xs : List Bnd) (k : Nat) (hk : k < xs.length) : Bnd.css (xs.take (k + 1)) = Bnd.css (xs.take k) ++ [(.str xs[k].var), (.str xs[k].term.name), (Tm.sd xs[k].term.args)] := by rw [Bnd.css_flat, Bnd.css_flat, flat_take_succ _ _ hk, Bnd.cs_eq]
theorem Bnd.sd_css (xs : List Bnd) : Bnd.sd xs = .sl xs.length (Bnd.css xs) := by rw [Bnd.sd_is, slOf, Bnd.css_flat]
def Bnd.bulks : List Bnd → Nat
  | [] => 0
  | t :: ts => Bnd.bulk t + Bnd.bulks ts
def Bnd.eqbs : List Bnd → List Bnd → Bool
  | [], [] => true
  | t :: ts, u :: us => Bnd.eqb t u && Bnd.eqbs ts us
  | _, _ => false
theorem Bnd.eqbs_iff : ∀ ts us : List Bnd, Bnd.eqbs ts us = true ↔ ts = us
  | [], [] => by simp [Bnd.eqbs]
  | [], _ :: _ => by simp [Bnd.eqbs]
  | _ :: _, [] => by simp [Bnd.eqbs]
  | t :: ts, u :: us => by simp [Bnd.eqbs, Bnd.eqb_iff, Bnd.eqbs_iff ts us]
theorem Bnd.bulks_le : ∀ (ts : List Bnd) (k : Nat), Bnd.bulks (ts.take k) ≤ Bnd.bulks ts
  | [], k => by simp
  | t :: ts, 0 => by simp [Bnd.bulks]
  | t :: ts, k + 1 => by
    have := Bnd.bulks_le ts k
    simp only [List.take_succ_cons, Bnd.bulks]; omega
theorem Bnd.bulks_take : ∀ (ts : List Bnd) (k : Nat) (hk : k < ts.length), Bnd.bulks (ts.take (k + 1)) = Bnd.bulks (ts.take k) + Bnd.bulk ts[k]
  | [], k, hk => absurd hk (by simp)
  | t :: ts, 0, _ => by simp [Bnd.bulks]
  | t :: ts, k + 1, hk => by
    have := Bnd.bulks_take ts k (by simpa using hk)
    simp only [List.take_succ_cons, Bnd.bulks, this, List.getElem_cons_succ]; omega
theorem Bnd.bulk_mem {ts : List Bnd} {t : Bnd} (h : t ∈ ts) : Bnd.bulk t ≤ Bnd.bulks ts := by
  induction ts with
  | nil => cases h
  | cons a ts ih =>
    rw [Bnd.bulks]
    rcases List.mem_cons.1 h with rfl | h
    · omega
    · have := ih h; omega
theorem Bnd.eqbs_length {ts us : List Bnd} (h : ts.length ≠ us.length) : Bnd.eqbs ts us = false := by
  rw [Bool.eq_false_iff]; intro e; exact h (by rw [(Bnd.eqbs_iff _ _).1 e])
theorem Bnd.eqbs_at {ts us : List Bnd} {k : Nat} (h1 : k < ts.length) (h2 : k < us.length) (hn : Bnd.eqb ts[k] us[k] = false) : Bnd.eqbs ts us = false := by
  rw [Bool.eq_false_iff]; intro e
  have := (Bnd.eqbs_iff _ _).1 e
  subst this
  rw [(Bnd.eqb_iff _ _).2 rfl] at hn
  exact absurd hn (by simp)
theorem Bnd.eqbs_take {ts us : List Bnd} {k : Nat} (h1 : k < ts.length) (h2 : k < us.length) (h : ts.take k = us.take k) (hn : Bnd.eqb ts[k] us[k] = true) : ts.take (k + 1) = us.take (k + 1) := by
  rw [List.take_succ_eq_append_getElem h1, List.take_succ_eq_append_getElem h2, h, (Bnd.eqb_iff _ _).1 hn]
theorem Bnd.own0 {S : Nat → Prop} {w w' : World} {c0 c1 c2 : Value} {x : Bnd} (h : Bnd.at S w c0 c1 c2 x) : D.own w' (.string x.var) (.str x.var) [] := D.own_str (by have q := h.1; rw [D.rd] at q; exact q.2)
theorem Bnd.own1 {S : Nat → Prop} {w w' : World} {c0 c1 c2 : Value} {x : Bnd} (h : Bnd.at S w c0 c1 c2 x) : D.own w' (.string x.term.name) (.str x.term.name) [] := D.own_str (by have q := h.2.1; rw [D.rd] at q; exact q.2)
def MadeBnd (x : Bnd) (w : World) (e : Ending) (w' : World) : Prop := ∃ v2 F2, e = .returned (.agg #[.string x.var, .string x.term.name, v2]) ∧ D.own w' v2 (Tm.sd x.term.args) F2 ∧ (∀ y ∈ F2, w.heap.size ≤ y) ∧ Below w.heap.size w w'
def EqBnd (t : Bnd) : Prop := ∀ (u : Bnd) (S : Nat → Prop) (c0 c1 c2 d0 d1 d2 : Value) (w : World), Bnd.at S w c0 c1 c2 t → Bnd.at S w d0 d1 d2 u → Calls Tryz.prog 65 #[.agg #[c0, c1, c2], .agg #[d0, d1, d2]] w fun e w' => e = .returned (.bool (Bnd.eqb t u)) ∧ Below w.heap.size w w'
def EqBndS (ts : List Bnd) : Prop := ∀ (us : List Bnd) (S : Nat → Prop) (v u : Value) (w : World), D.rd S w v (Bnd.sd ts) → D.rd S w u (Bnd.sd us) → Calls Tryz.prog 40 #[v, u] w fun e w' => e = .returned (.bool (Bnd.eqbs ts us)) ∧ Below w.heap.size w w'
theorem Bnd.sd_own_form {w : World} {v : Value} {ts : List Bnd} {F : List Nat} (h : D.own w v (Bnd.sd ts) F) : ∃ a cap, v = .slice a ts.length cap := by
  rw [Bnd.sd_css, D.own] at h
  obtain ⟨a, cap, e, _⟩ := h
  exact ⟨a, cap, e⟩
set_option maxHeartbeats 400000 in
theorem eqBndS_of (ts : List Bnd) (h : ∀ t ∈ ts, EqBnd t) : EqBndS ts := by
  intro us S v u w hr hr'
  obtain ⟨a, cap, rfl, hlen, hcap⟩ := Bnd.sd_form hr
  obtain ⟨a', cap', rfl, hlen', hcap'⟩ := Bnd.sd_form hr'
  unfold big at hlen hlen'
  by_cases hll : ts.length = us.length
  · go_enter Tryz.func40, Tryz.ntmps40
    go_wp2_with fail
    go_loopw [5] (fun i wr => ∃ (k : Nat), k ≤ ts.length ∧ i = .int .i64 k ∧ Hid (ts.take k = us.take k) ∧ Below w.heap.size w wr) (fun i _ => ts.length - (intOf i).toNat)
    case atStart => exact ⟨0, Nat.zero_le _, rfl, by simp [Hid], Below.refl _ _⟩
    case round =>
      obtain ⟨k, hk, rfl, HX, hb⟩ := hrel
      by_cases hlt : k < ts.length
      · have hne : ts ≠ [] := by intro e; subst e; simp at hlt
        have hlt' : k < us.length := by omega
        have hne' : us ≠ [] := by intro e; subst e; simp at hlt'
        obtain ⟨b, off, rfl, hS, hbl, hrr⟩ := Bnd.sd_get hr hne
        obtain ⟨b', off', rfl, hS', hbl', hrr'⟩ := Bnd.sd_get hr' hne'
        obtain ⟨c0, c1, c2, q0, q1, q2, qx⟩ := hrr k hlt
        obtain ⟨d0, d1, d2, r0, r1, r2, rx⟩ := hrr' k hlt'
        replace q0 := (hb.cell (p := ⟨b, off + k * 3, none⟩) hbl).trans q0
        replace q1 := (hb.cell (p := ⟨b, off + k * 3 + 1, none⟩) hbl).trans q1
        replace q2 := (hb.cell (p := ⟨b, off + k * 3 + 2, none⟩) hbl).trans q2
        replace r0 := (hb.cell (p := ⟨b', off' + k * 3, none⟩) hbl').trans r0
        replace r1 := (hb.cell (p := ⟨b', off' + k * 3 + 1, none⟩) hbl').trans r1
        replace r2 := (hb.cell (p := ⟨b', off' + k * 3 + 2, none⟩) hbl').trans r2
        replace qx := Bnd.at_keep (Keeps.all hb) qx
        replace rx := Bnd.at_keep (Keeps.all hb) rx
        have hmem := h ts[k] (List.getElem_mem hlt)
        clear hr hrr hr' hrr' 
        go_wp2_with fail
        have hb0 : b < wr.heap.size := Nat.lt_of_lt_of_le hbl hb.size
        have hb0' : b' < wr.heap.size := Nat.lt_of_lt_of_le hbl' hb.size
        refine wp_region_B [fun v _ => v = .slice (some ⟨b, off, none⟩) ts.length cap, fun v _ => v = .int .i64 k, fun v _ => v = .pointer (some ⟨b, off + k * 3, none⟩), fun v _ => v = .agg #[c0, c1, c2], fun v _ => v = .slice (some ⟨b', off', none⟩) us.length cap', fun v _ => v = .int .i64 k, fun v _ => v = .pointer (some ⟨b', off' + k * 3, none⟩), fun v _ => v = .agg #[d0, d1, d2], fun v _ => v = .bool (Bnd.eqb ts[k] us[k]), fun v _ => v = .bool (!Bnd.eqb ts[k] us[k])] _ (fun V => by simp [putAll, Act.put]; rfl) (by kernel_rfl) (by decide) (by simp) (by kernel_rfl) ?_ ?_ ?_
        · intro F hF
          simp only [List.mem_cons, List.not_mem_nil, or_false] at hF
          rcases hF with rfl | rfl | rfl | rfl | rfl | rfl | rfl | rfl | rfl | rfl
          · exact stable_eq
          · exact stable_eq
          · exact stable_eq
          · exact stable_eq
          · exact stable_eq
          · exact stable_eq
          · exact stable_eq
          · exact stable_eq
          · exact stable_eq
          · exact stable_eq
        · refine ⟨?_, ?_, ?_, ?_, ?_, ?_, ?_, ?_, ?_, ?_, trivial⟩
          · intro V w1 hbR _
            unfold Does
            go_simp
            exact ⟨Below.refl _ _, rfl⟩
          · intro V w1 hbR _
            unfold Does
            go_simp
            exact ⟨Below.refl _ _, rfl⟩
          · intro V w1 hbR ⟨f0, f1, _⟩
            replace f0 : V 0 = .slice (some ⟨b, off, none⟩) ts.length cap := f0
            replace f1 : V 1 = .int .i64 k := f1
            unfold Does
            go_simp
            exact ⟨Below.refl _ _, rfl⟩
          · intro V w1 hbR ⟨f2, _⟩
            replace f2 : V 2 = .pointer (some ⟨b, off + k * 3, none⟩) := f2
            obtain ⟨hc, hf⟩ := bcell hbR
            try simp only [World.size_alloc, World.size_setCell] at hc hf
            unfold Does
            go_simp
            exact ⟨Below.refl _ _, rfl⟩
          · intro V w1 hbR _
            unfold Does
            go_simp
            exact ⟨Below.refl _ _, rfl⟩
          · intro V w1 hbR _
            unfold Does
            go_simp
            exact ⟨Below.refl _ _, rfl⟩
          · intro V w1 hbR ⟨f4, f5, _⟩
            replace f4 : V 4 = .slice (some ⟨b', off', none⟩) us.length cap' := f4
            replace f5 : V 5 = .int .i64 k := f5
            unfold Does
            go_simp
            exact ⟨Below.refl _ _, rfl⟩
          · intro V w1 hbR ⟨f6, _⟩
            replace f6 : V 6 = .pointer (some ⟨b', off' + k * 3, none⟩) := f6
            obtain ⟨hc, hf⟩ := bcell hbR
            try simp only [World.size_alloc, World.size_setCell] at hc hf
            unfold Does
            go_simp
            exact ⟨Below.refl _ _, rfl⟩
          · intro V w1 hbR ⟨f3, f7, _⟩
            replace f3 : V 3 = .agg #[c0, c1, c2] := f3
            replace f7 : V 7 = .agg #[d0, d1, d2] := f7
            obtain ⟨hc, hf⟩ := bcell hbR
            try simp only [World.size_alloc, World.size_setCell] at hc hf
            unfold Does
            go_simp
            refine (hmem us[k] S _ _ _ _ _ _ _ (Bnd.at_keep (Keeps.all hbR) qx) (Bnd.at_keep (Keeps.all hbR) rx)).mono ?_; rintro e w2 ⟨rfl, hb2⟩; exact ⟨_, rfl, hb2, rfl⟩
          · intro V w1 hbR ⟨f8, _⟩
            replace f8 : V 8 = .bool (Bnd.eqb ts[k] us[k]) := f8
            unfold Does
            go_simp
            exact ⟨Below.refl _ _, rfl⟩
        intro V w1 hbR hfR
        obtain ⟨f0, f1, f2, f3, f4, f5, f6, f7, f8, f9, _⟩ := hfR
        replace f0 : V 0 = .slice (some ⟨b, off, none⟩) ts.length cap := f0
        replace f1 : V 1 = .int .i64 k := f1
        replace f2 : V 2 = .pointer (some ⟨b, off + k * 3, none⟩) := f2
        replace f3 : V 3 = .agg #[c0, c1, c2] := f3
        replace f4 : V 4 = .slice (some ⟨b', off', none⟩) us.length cap' := f4
        replace f5 : V 5 = .int .i64 k := f5
        replace f6 : V 6 = .pointer (some ⟨b', off' + k * 3, none⟩) := f6
        replace f7 : V 7 = .agg #[d0, d1, d2] := f7
        replace f8 : V 8 = .bool (Bnd.eqb ts[k] us[k]) := f8
        replace f9 : V 9 = .bool (!Bnd.eqb ts[k] us[k]) := f9
        simp only [f0, f1, f2, f3, f4, f5, f6, f7, f8, f9]
        clear f0 f1 f2 f3 f4 f5 f6 f7 f8 f9
        by_cases he : Bnd.eqb ts[k] us[k] = true
        · have HZ := hid (Bnd.eqbs_take hlt hlt' HX.out he)
          rw [he]
          go_wp2_with fail
          go_roundw
          case rel => exact ⟨k + 1, by omega, by go_num, HZ, hb.trans (hbR.mono hb.size)⟩
          case measure => simp [intOf]; omega
        · have he' : Bnd.eqb ts[k] us[k] = false := by simpa using he
          have HZ := hid (Bnd.eqbs_at hlt hlt' he')
          rw [he']
          clear he he'
          go_wp2_with fail
          go_ret
          exact ⟨ret_bool HZ.out.symm, hb.trans (hbR.mono hb.size)⟩
      · obtain rfl : k = ts.length := by omega
        have HY : Hid (Bnd.eqbs ts us = true) := by
          have := HX.out
          rw [List.take_length, hll, List.take_length] at this
          rw [Hid, Bnd.eqbs_iff]; exact this
        go_wp2_with fail
        go_ret
        exact ⟨ret_bool HY.out.symm, hb⟩
  · have HY := hid (Bnd.eqbs_length hll)
    go_enter Tryz.func40, Tryz.ntmps40
    go_wp2_with fail
    go_ret
    exact ⟨ret_bool HY.out.symm, Below.refl _ _⟩

theorem Bnd.at_term {S : Nat → Prop} {w : World} {c0 c1 c2 : Value} {x : Bnd} (h : Bnd.at S w c0 c1 c2 x) : Tm.at S w c1 c2 x.term := h.2
theorem Bnd.var_le {S : Nat → Prop} {w : World} {c0 c1 c2 : Value} {x : Bnd} (h : Bnd.at S w c0 c1 c2 x) : x.var.size ≤ maxLen := by have q := h.1; rw [D.rd] at q; exact q.2



set_option maxHeartbeats 400000 in
theorem eqBnd_any (x : Bnd) : EqBnd x := by
  intro u S c0 c1 c2 d0 d1 d2 w hr hr'
  obtain ⟨p, t⟩ := x
  obtain ⟨q, u⟩ := u
  obtain ⟨rfl, rfl, a, cap, rfl⟩ := Bnd.at_form hr
  obtain ⟨rfl, rfl, a', cap', rfl⟩ := Bnd.at_form hr'
  replace hr := Bnd.at_term hr
  replace hr' := Bnd.at_term hr'
  simp only at hr hr' ⊢
  by_cases hpq : p = q
  · subst hpq
    have HX : Hid (Bnd.eqb ⟨p, t⟩ ⟨p, u⟩ = Tm.eqb t u) := by simp [Hid, Bnd.eqb]
    go_enter Tryz.func65, Tryz.ntmps65
    go_wp2_with fail
    refine (eqTerm_any t u S _ _ _ _ _ (Tm.at_keep (((Keeps.refl _ _).alloc _).alloc _) hr) (Tm.at_keep (((Keeps.refl _ _).alloc _).alloc _) hr')).mono ?_
    rintro e w1 ⟨rfl, hb⟩
    have hb' : Below w.heap.size w w1 := (((Below.refl _ _).alloc (Nat.le_refl _) _).alloc (by simp) _).trans (hb.mono (by simp; omega))
    by_cases he : Tm.eqb t u = true
    all_goals
      first | rw [he] | rw [Bool.eq_false_iff.2 he]
      go_wp2_with fail
      go_ret
      exact ⟨ret_bool (by rw [HX.out]; simp [he]), hb'⟩
  · have HX : Hid (Bnd.eqb ⟨p, t⟩ ⟨q, u⟩ = false) := by simp [Hid, Bnd.eqb, hpq]
    have hne := toList_ne hpq
    go_enter Tryz.func65, Tryz.ntmps65
    go_wp2_with fail
    go_ret
    exact ⟨ret_bool HX.out.symm, ((Below.refl _ _).alloc (Nat.le_refl _) _).alloc (by simp) _⟩

theorem eqBndS_any (ts : List Bnd) : EqBndS ts := eqBndS_of ts fun t _ => eqBnd_any t

/-- a substitution -/
structure Sb where
  bs : List Bnd
def Sb.bulk (x : Sb) : Nat := x.bs.length + Bnd.bulks x.bs
def Sb.at (S : Nat → Prop) (w : World) (c0 : Value) (x : Sb) : Prop := D.rd S w c0 (Bnd.sd x.bs)
theorem Sb.at_keep {S : Nat → Prop} {w w' : World} {c0 : Value} {x : Sb} (hk : Keeps S w w') (h : Sb.at S w c0 x) : Sb.at S w' c0 x := D.rd_keep hk _ _ h
theorem Sb.at_mono {S S' : Nat → Prop} {w : World} {c0 : Value} {x : Sb} (hs : ∀ b, S b → S' b) (h : Sb.at S w c0 x) : Sb.at S' w c0 x := D.rd_mono hs _ _ h
theorem Sb.at_form {S : Nat → Prop} {w : World} {c0 : Value} {x : Sb} (h : Sb.at S w c0 x) : ∃ a cap, c0 = .slice a x.bs.length cap := by
  obtain ⟨a, cap, e, _⟩ := Bnd.sd_form h; exact ⟨a, cap, e⟩


def MadeSb (x : Sb) (w : World) (e : Ending) (w' : World) : Prop := ∃ v F, e = .returned (.agg #[v]) ∧ D.own w' v (Bnd.sd x.bs) F ∧ (∀ y ∈ F, w.heap.size ≤ y) ∧ Below w.heap.size w w'

/-- the value is a substitution that reads as x -/
def IsS (x : Sb) (v : Value) (w : World) : Prop := ∃ v', v = .agg #[v'] ∧ Sb.at (fun _ => True) w v' x
theorem IsS.form {x : Sb} {v : Value} {w : World} (h : IsS x v w) : ∃ a cap, v = .agg #[.slice a x.bs.length cap] ∧ Sb.at (fun _ => True) w (.slice a x.bs.length cap) x := by
  obtain ⟨v', rfl, h⟩ := h
  obtain ⟨a, cap, rfl⟩ := Sb.at_form h
  exact ⟨a, cap, rfl, h⟩
theorem IsS.stable {x : Sb} {w : World} : ∀ v w1 w2, Below w.heap.size w w1 → Below w1.heap.size w1 w2 → IsS x v w1 → IsS x v w2 :=
  fun _ _ _ _ hb ⟨v', e, h⟩ => ⟨v', e, Sb.at_keep (Keeps.all hb) h⟩

set_option maxHeartbeats 400000 in
theorem eqSb_any (x u : Sb) : ∀ (S : Nat → Prop) (c0 d0 : Value) (w : World), Sb.at S w c0 x → Sb.at S w d0 u → Calls Tryz.prog 18 #[.agg #[c0], .agg #[d0]] w (Gives w (.bool (Bnd.eqbs x.bs u.bs))) := by
  intro S c0 d0 w hr hr'
  obtain ⟨a, cap, rfl⟩ := Sb.at_form hr
  obtain ⟨a', cap', rfl⟩ := Sb.at_form hr'
  go_enter Tryz.func18, Tryz.ntmps18
  go_wp2_with fail
  refine (eqBndS_any x.bs u.bs S _ _ _ (Sb.at_keep (((Keeps.refl _ _).alloc _).alloc _) hr) (Sb.at_keep (((Keeps.refl _ _).alloc _).alloc _) hr')).mono ?_
  rintro e w1 ⟨rfl, hb⟩
  have hb' : Below w.heap.size w w1 := (((Below.refl _ _).alloc (Nat.le_refl _) _).alloc (by simp) _).trans (hb.mono (by simp; omega))
  by_cases he : Bnd.eqbs x.bs u.bs = true
  all_goals
    first | rw [he] | rw [Bool.eq_false_iff.2 he]
    go_wp2_with fail
    go_ret
    exact Gives.mk (ret_bool (by simp [he])) hb'
theorem eqSb_refl {x : Sb} {S : Nat → Prop} {c0 d0 : Value} {w : World} (h : Sb.at S w c0 x) (k : Sb.at S w d0 x) : Calls Tryz.prog 18 #[.agg #[c0], .agg #[d0]] w (Gives w (.bool true)) := by
  have := eqSb_any x x S c0 d0 w h k
  rwa [(Bnd.eqbs_iff _ _).2 rfl] at this

end Go.Proofs.YtglhbaigigdeeaaGreat
