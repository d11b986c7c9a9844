/- Small terms, valid terms, valid atoms, expressions. -/
import Derived.Test.YtglhbaigigdeeaaDoorTn
namespace Go.Proofs.YtglhbaigigdeeaaDoor
set_option maxRecDepth 100000
open Go.RowKit

theorem Tm.atom_eq (t : Tm) : t.atom = if t.name = eqSign then decide (t.args.length = 2) && t.small && Tm.namesAll t.args else symName t.name && t.valid := by
  cases t; rw [Tm.atom]; rfl

set_option maxHeartbeats 1000000 in
theorem isSmall_any (t : Tm) : PredIs 36 Tm.small t := by
  intro S c0 c1 w hT hbk
  obtain ⟨rfl, hn, a, cap, rfl⟩ := Tm.at_form hT
  have hW : Below w.heap.size w (w.alloc (.cells #[.string t.name, .slice a t.args.length cap] 28)) := (Below.refl _ _).alloc (Nat.le_refl _) _
  have bT : Box (w.alloc (.cells #[.string t.name, .slice a t.args.length cap] 28)) w.heap.size [.string t.name, .slice a t.args.length cap] := Box.new w _ _
  replace hT := Tm.at_keep (Keeps.all hW) hT
  go_enter Tryd.func36, Tryd.ntmps36
  go_wp2_with fail
  generalize (w.alloc (.cells #[.string t.name, .slice a t.args.length cap] 28)) = w0 at *
  refine (implSize_any t _ _ _ _ hT hbk).mono ?_
  rintro e w1 ⟨r, rfl, hu, hb⟩
  replace hW := hW.trans (hb.mono hW.size)
  replace bT := bT.keep hb
  replace hT := Tm.at_keep (Keeps.all hb) hT
  clear hb
  have eT0 := bT.c0
  have eT1 := bT.c1
  by_cases h30 : t.size ≤ 30
  · have HS : Hid (Tm.small t = decide (t.depth ≤ 8)) := by simp [Hid, Tm.small, h30]
    have h30' : (r : Int) ≤ 30 := by unfold Upto at hu; omega
    clear h30 hu
    go_wp2_with fail
    clear eT0 eT1
    refine (implDepth_any t _ _ _ _ hT hbk).mono ?_
    rintro e w2 ⟨_, rfl, hb, rfl⟩
    go_wp2_with fail
    go_ret
    exact Gives.mk (ret_bool (by rw [HS.out, Bool.eq_iff_iff]; simp; try omega)) (hW.trans (hb.mono hW.size))
  · have HS : Hid (Tm.small t = false) := by simp [Hid, Tm.small, h30]
    have h30' : ¬ (r : Int) ≤ 30 := by unfold Upto at hu; omega
    clear h30 hu
    go_wp2_with fail
    go_ret
    exact Gives.mk (ret_bool HS.out.symm) hW

set_option maxHeartbeats 1000000 in
theorem l2Fits_any (t : Tm) : PredIs 32 Tm.small t := by
  intro S c0 c1 w hT hbk
  obtain ⟨rfl, hn, a, cap, rfl⟩ := Tm.at_form hT
  have hW : Below w.heap.size w (w.alloc (.cells #[.string t.name, .slice a t.args.length cap] 28)) := (Below.refl _ _).alloc (Nat.le_refl _) _
  have bT : Box (w.alloc (.cells #[.string t.name, .slice a t.args.length cap] 28)) w.heap.size [.string t.name, .slice a t.args.length cap] := Box.new w _ _
  replace hT := Tm.at_keep (Keeps.all hW) hT
  go_enter Tryd.func32, Tryd.ntmps32
  go_wp2_with fail
  generalize (w.alloc (.cells #[.string t.name, .slice a t.args.length cap] 28)) = w0 at *
  refine (l2Many_any t 30 _ _ _ _ (by omega) hT hbk).mono ?_
  rintro e w1 ⟨r, rfl, hu, hb⟩
  replace hW := hW.trans (hb.mono hW.size)
  replace bT := bT.keep hb
  replace hT := Tm.at_keep (Keeps.all hb) hT
  clear hb
  have eT0 := bT.c0
  have eT1 := bT.c1
  by_cases h30 : t.size ≤ 30
  · have HS : Hid (Tm.small t = decide (t.depth ≤ 8)) := by simp [Hid, Tm.small, h30]
    have h30' : (r : Int) ≤ 30 := by unfold Upto at hu; omega
    clear h30 hu
    go_wp2_with fail
    clear eT0 eT1
    refine (l2Depth_any t _ _ _ _ hT hbk).mono ?_
    rintro e w2 ⟨_, rfl, hb, rfl⟩
    go_wp2_with fail
    go_ret
    exact Gives.mk (ret_bool (by rw [HS.out, Bool.eq_iff_iff]; simp; try omega)) (hW.trans (hb.mono hW.size))
  · have HS : Hid (Tm.small t = false) := by simp [Hid, Tm.small, h30]
    have h30' : ¬ (r : Int) ≤ 30 := by unfold Upto at hu; omega
    clear h30 hu
    go_wp2_with fail
    go_ret
    exact Gives.mk (ret_bool HS.out.symm) hW

set_option maxHeartbeats 1000000 in
theorem isValidTerm_any (t : Tm) : PredIs 18 Tm.valid t := by
  intro S c0 c1 w hT hbk
  obtain ⟨rfl, hn, a, cap, rfl⟩ := Tm.at_form hT
  have hW : Below w.heap.size w (w.alloc (.cells #[.string t.name, .slice a t.args.length cap] 28)) := (Below.refl _ _).alloc (Nat.le_refl _) _
  have bT : Box (w.alloc (.cells #[.string t.name, .slice a t.args.length cap] 28)) w.heap.size [.string t.name, .slice a t.args.length cap] := Box.new w _ _
  replace hT := Tm.at_keep (Keeps.all hW) hT
  go_enter Tryd.func18, Tryd.ntmps18
  go_wp2_with fail
  generalize (w.alloc (.cells #[.string t.name, .slice a t.args.length cap] 28)) = w0 at *
  by_cases h1 : t.small = true
  · have HS : Hid (Tm.valid t = t.names) := by simp [Hid, Tm.valid, h1]
    refine (isSmall_any t hT hbk).mono ?_
    rintro e w1 ⟨_, rfl, hb, rfl⟩
    replace hW := hW.trans (hb.mono hW.size)
    replace bT := bT.keep hb
    replace hT := Tm.at_keep (Keeps.all hb) hT
    clear hb
    rw [h1]
    have eT0 := bT.c0
    have eT1 := bT.c1
    have lT := bT.lt
    go_wp2_with fail
    clear eT0 eT1 lT
    clear h1
    refine (hasNames_any t hT hbk).mono ?_
    rintro e w1 ⟨_, rfl, hb, rfl⟩
    replace hW := hW.trans (hb.mono hW.size)
    replace bT := bT.keep hb
    replace hT := Tm.at_keep (Keeps.all hb) hT
    clear hb
    have eT0 := bT.c0
    have eT1 := bT.c1
    have lT := bT.lt
    go_wp2_with fail
    clear eT0 eT1 lT
    go_ret
    exact Gives.mk (ret_bool HS.out.symm) hW
  · replace h1 : t.small = false := by simpa using h1
    have HS : Hid (Tm.valid t = false) := by simp [Hid, Tm.valid, h1]
    refine (isSmall_any t hT hbk).mono ?_
    rintro e w1 ⟨_, rfl, hb, rfl⟩
    replace hW := hW.trans (hb.mono hW.size)
    replace bT := bT.keep hb
    replace hT := Tm.at_keep (Keeps.all hb) hT
    clear hb
    rw [h1]
    have eT0 := bT.c0
    have eT1 := bT.c1
    have lT := bT.lt
    go_wp2_with fail
    clear eT0 eT1 lT
    go_ret
    exact Gives.mk (ret_bool HS.out.symm) hW

set_option maxHeartbeats 1000000 in
theorem l2Good_any (t : Tm) : PredIs 15 Tm.valid t := by
  intro S c0 c1 w hT hbk
  obtain ⟨rfl, hn, a, cap, rfl⟩ := Tm.at_form hT
  have hW : Below w.heap.size w (w.alloc (.cells #[.string t.name, .slice a t.args.length cap] 28)) := (Below.refl _ _).alloc (Nat.le_refl _) _
  have bT : Box (w.alloc (.cells #[.string t.name, .slice a t.args.length cap] 28)) w.heap.size [.string t.name, .slice a t.args.length cap] := Box.new w _ _
  replace hT := Tm.at_keep (Keeps.all hW) hT
  go_enter Tryd.func15, Tryd.ntmps15
  go_wp2_with fail
  generalize (w.alloc (.cells #[.string t.name, .slice a t.args.length cap] 28)) = w0 at *
  by_cases h1 : t.small = true
  · have HS : Hid (Tm.valid t = t.names) := by simp [Hid, Tm.valid, h1]
    refine (l2Fits_any t hT hbk).mono ?_
    rintro e w1 ⟨_, rfl, hb, rfl⟩
    replace hW := hW.trans (hb.mono hW.size)
    replace bT := bT.keep hb
    replace hT := Tm.at_keep (Keeps.all hb) hT
    clear hb
    rw [h1]
    have eT0 := bT.c0
    have eT1 := bT.c1
    have lT := bT.lt
    go_wp2_with fail
    clear eT0 eT1 lT
    clear h1
    refine (l2Nodes_any t hT hbk).mono ?_
    rintro e w1 ⟨_, rfl, hb, rfl⟩
    replace hW := hW.trans (hb.mono hW.size)
    replace bT := bT.keep hb
    replace hT := Tm.at_keep (Keeps.all hb) hT
    clear hb
    have eT0 := bT.c0
    have eT1 := bT.c1
    have lT := bT.lt
    go_wp2_with fail
    clear eT0 eT1 lT
    go_ret
    exact Gives.mk (ret_bool HS.out.symm) hW
  · replace h1 : t.small = false := by simpa using h1
    have HS : Hid (Tm.valid t = false) := by simp [Hid, Tm.valid, h1]
    refine (l2Fits_any t hT hbk).mono ?_
    rintro e w1 ⟨_, rfl, hb, rfl⟩
    replace hW := hW.trans (hb.mono hW.size)
    replace bT := bT.keep hb
    replace hT := Tm.at_keep (Keeps.all hb) hT
    clear hb
    rw [h1]
    have eT0 := bT.c0
    have eT1 := bT.c1
    have lT := bT.lt
    go_wp2_with fail
    clear eT0 eT1 lT
    go_ret
    exact Gives.mk (ret_bool HS.out.symm) hW

def Tm.isEq (t : Tm) : Bool := decide (t.name = eqSign)
theorem isEquality_any (t : Tm) : PredIs 48 Tm.isEq t := by
  intro S c0 c1 w hT hbk
  have HE : Hid (Tm.isEq t = (t.name.toList == [61])) := by
    have h : ([61] : List UInt8) = eqSign.toList := by rw [ByteArray.toList_eq]; rfl
    rw [Hid, h, toList_beq]; rfl
  obtain ⟨rfl, hn, a, cap, rfl⟩ := Tm.at_form hT
  have hW : Below w.heap.size w (w.alloc (.cells #[.string t.name, .slice a t.args.length cap] 28)) := (Below.refl _ _).alloc (Nat.le_refl _) _
  have bT : Box (w.alloc (.cells #[.string t.name, .slice a t.args.length cap] 28)) w.heap.size [.string t.name, .slice a t.args.length cap] := Box.new w _ _
  replace hT := Tm.at_keep (Keeps.all hW) hT
  go_enter Tryd.func48, Tryd.ntmps48
  go_wp2_with fail
  generalize (w.alloc (.cells #[.string t.name, .slice a t.args.length cap] 28)) = w0 at *
  go_ret
  exact Gives.mk (ret_bool HE.out.symm) hW

theorem Tm.args_bulk (t : Tm) : Tm.bulks t.args ≤ t.bulk := by cases t; rw [Tm.bulk]; simp [Tm.args]
theorem Tm.namesAll_two {ts : List Tm} (h : ts.length = 2) : Tm.namesAll ts = ((ts[0]'(by omega)).names && (ts[1]'(by omega)).names) := by
  match ts, h with
  | [x, y], _ => simp [Tm.namesAll]

set_option maxHeartbeats 2000000 in
theorem isValidAtom_any (t : Tm) : PredIs 49 Tm.atom t := by
  intro S c0 c1 w hT hbk
  by_cases he : t.isEq = true
  · have hne : t.name = eqSign := by simpa [Tm.isEq] using he
    have HA : Hid (t.atom = (decide (t.args.length = 2) && t.small && Tm.namesAll t.args)) := by rw [Hid, Tm.atom_eq, if_pos hne]
    have hq : (t.name.toList == [61]) = true := by
      have h : ([61] : List UInt8) = eqSign.toList := by rw [ByteArray.toList_eq]; rfl
      rw [h, toList_beq, hne]; simp
    clear hne
    by_cases hl : t.args.length = 2
    · have hl2 : ((t.args.length : Int) == 2) = true := by rw [beq_iff_eq]; omega
      have HL := hid hl
      clear hl
      have hn2 : 2 ≤ t.args.length := by have := HL.out; omega
      obtain ⟨rfl, hn, a, cap, rfl⟩ := Tm.at_form hT
      have hW : Below w.heap.size w (w.alloc (.cells #[.string t.name, .slice a t.args.length cap] 28)) := (Below.refl _ _).alloc (Nat.le_refl _) _
      have bT : Box (w.alloc (.cells #[.string t.name, .slice a t.args.length cap] 28)) w.heap.size [.string t.name, .slice a t.args.length cap] := Box.new w _ _
      replace hT := Tm.at_keep (Keeps.all hW) hT
      go_enter Tryd.func49, Tryd.ntmps49
      go_wp2_with fail
      generalize (w.alloc (.cells #[.string t.name, .slice a t.args.length cap] 28)) = w0 at *
      refine (isEquality_any t hT hbk).mono ?_
      rintro e w1 ⟨_, rfl, hb, rfl⟩
      replace hW := hW.trans (hb.mono hW.size)
      replace bT := bT.keep hb
      replace hT := Tm.at_keep (Keeps.all hb) hT
      clear hb
      rw [he]
      have eT0 := bT.c0
      have eT1 := bT.c1
      have lT := bT.lt
      go_wp2_with fail
      clear eT0 eT1 lT
      clear he hq hl2
      by_cases hsm : t.small = true
      · refine (isSmall_any t hT hbk).mono ?_
        rintro e w1 ⟨_, rfl, hb, rfl⟩
        replace hW := hW.trans (hb.mono hW.size)
        replace bT := bT.keep hb
        replace hT := Tm.at_keep (Keeps.all hb) hT
        clear hb
        rw [hsm]
        have hnn : t.args ≠ [] := by intro e; rw [e] at hn2; simp at hn2
        have i0 : 0 < t.args.length := by omega
        have i1 : 1 < t.args.length := by omega
        obtain ⟨b, off, rfl, hS, hbl, hrr⟩ := Tm.sd_get hT.2 hnn
        obtain ⟨x0, x1, q0, q1, q2⟩ := hrr 0 i0
        obtain ⟨y0, y1, r0, r1, r2⟩ := hrr 1 i1
        clear hrr
        obtain ⟨rfl, -, xa, xc, rfl⟩ := Tm.at_form q2
        obtain ⟨rfl, -, ya, yc, rfl⟩ := Tm.at_form r2
        simp only [Nat.zero_mul, Nat.add_zero, Nat.one_mul] at q0 q1 r0 r1
        have hb0 : t.args[0].bulk ≤ 1048576 := by have := Tm.bulk_at i0; have := Tm.args_bulk t; omega
        have hb1 : t.args[1].bulk ≤ 1048576 := by have := Tm.bulk_at i1; have := Tm.args_bulk t; omega
        have j0 : (0 : Int) < t.args.length := by omega
        have j1 : (1 : Int) < t.args.length := by omega
        have HB : Hid (t.atom = (t.args[0].names && t.args[1].names)) := by
          rw [Hid, HA.out, hsm, Tm.namesAll_two HL.out]; simp [HL.out]
        clear hsm
        have eT0 := bT.c0
        have eT1 := bT.c1
        have lT := bT.lt
        go_wp2_with fail
        clear eT0 eT1 lT
        have HX := hid q0
        refine (hasNames_any (t.args[0]) q2 hb0).mono ?_
        rintro e w2 ⟨_, rfl, hb, rfl⟩
        replace hW := hW.trans (hb.mono hW.size)
        replace bT := bT.keep hb
        replace r0 := (hb.cell (p := ⟨b, off + 2, none⟩) hbl).trans r0
        replace r1 := (hb.cell (p := ⟨b, off + 2 + 1, none⟩) hbl).trans r1
        replace r2 := Tm.at_keep (Keeps.all hb) r2
        clear hb q0 q1 q2 HX
        by_cases hp : t.args[0].names = true
        · have HC : Hid (t.atom = t.args[1].names) := by rw [Hid, HB.out, hp]; rfl
          rw [hp]
          clear hp
          have eT0 := bT.c0
          have eT1 := bT.c1
          have lT := bT.lt
          go_wp2_with fail
          clear eT0 eT1 lT
          refine (hasNames_any (t.args[1]) r2 hb1).mono ?_
          rintro e w3 ⟨_, rfl, hb, rfl⟩
          go_wp2_with fail
          go_ret
          exact Gives.mk (ret_bool HC.out.symm) (hW.trans (hb.mono hW.size))
        · replace hp : t.args[0].names = false := by simpa using hp
          have HC : Hid (t.atom = false) := by rw [Hid, HB.out, hp]; rfl
          rw [hp]
          clear hp
          have eT0 := bT.c0
          have eT1 := bT.c1
          go_wp2_with fail
          go_ret
          exact Gives.mk (ret_bool HC.out.symm) hW
      · replace hsm : t.small = false := by simpa using hsm
        have HS : Hid (t.atom = false) := by rw [Hid, HA.out, hsm]; simp
        refine (isSmall_any t hT hbk).mono ?_
        rintro e w1 ⟨_, rfl, hb, rfl⟩
        replace hW := hW.trans (hb.mono hW.size)
        replace bT := bT.keep hb
        replace hT := Tm.at_keep (Keeps.all hb) hT
        clear hb
        rw [hsm]
        have eT0 := bT.c0
        have eT1 := bT.c1
        have lT := bT.lt
        go_wp2_with fail
        clear eT0 eT1 lT
        go_ret
        exact Gives.mk (ret_bool HS.out.symm) hW
    · have hl2 : ((t.args.length : Int) == 2) = false := by rw [beq_eq_false_iff_ne]; omega
      have HS : Hid (t.atom = false) := by rw [Hid, HA.out]; simp [hl]
      clear hl
      obtain ⟨rfl, hn, a, cap, rfl⟩ := Tm.at_form hT
      have hW : Below w.heap.size w (w.alloc (.cells #[.string t.name, .slice a t.args.length cap] 28)) := (Below.refl _ _).alloc (Nat.le_refl _) _
      have bT : Box (w.alloc (.cells #[.string t.name, .slice a t.args.length cap] 28)) w.heap.size [.string t.name, .slice a t.args.length cap] := Box.new w _ _
      replace hT := Tm.at_keep (Keeps.all hW) hT
      go_enter Tryd.func49, Tryd.ntmps49
      go_wp2_with fail
      generalize (w.alloc (.cells #[.string t.name, .slice a t.args.length cap] 28)) = w0 at *
      refine (isEquality_any t hT hbk).mono ?_
      rintro e w1 ⟨_, rfl, hb, rfl⟩
      replace hW := hW.trans (hb.mono hW.size)
      replace bT := bT.keep hb
      replace hT := Tm.at_keep (Keeps.all hb) hT
      clear hb
      rw [he]
      have eT0 := bT.c0
      have eT1 := bT.c1
      have lT := bT.lt
      go_wp2_with fail
      clear eT0 eT1 lT
      go_ret
      exact Gives.mk (ret_bool HS.out.symm) hW
  · replace he : t.isEq = false := by simpa using he
    have hne : ¬ t.name = eqSign := by simpa [Tm.isEq] using he
    have HA : Hid (t.atom = (symName t.name && t.valid)) := by rw [Hid, Tm.atom_eq, if_neg hne]
    have hq : (t.name.toList == [61]) = false := by
      have h : ([61] : List UInt8) = eqSign.toList := by rw [ByteArray.toList_eq]; rfl
      rw [h]; exact toList_ne hne
    clear hne
    obtain ⟨rfl, hn, a, cap, rfl⟩ := Tm.at_form hT
    have hW : Below w.heap.size w (w.alloc (.cells #[.string t.name, .slice a t.args.length cap] 28)) := (Below.refl _ _).alloc (Nat.le_refl _) _
    have bT : Box (w.alloc (.cells #[.string t.name, .slice a t.args.length cap] 28)) w.heap.size [.string t.name, .slice a t.args.length cap] := Box.new w _ _
    replace hT := Tm.at_keep (Keeps.all hW) hT
    go_enter Tryd.func49, Tryd.ntmps49
    go_wp2_with fail
    generalize (w.alloc (.cells #[.string t.name, .slice a t.args.length cap] 28)) = w0 at *
    refine (isEquality_any t hT hbk).mono ?_
    rintro e w1 ⟨_, rfl, hb, rfl⟩
    replace hW := hW.trans (hb.mono hW.size)
    replace bT := bT.keep hb
    replace hT := Tm.at_keep (Keeps.all hb) hT
    clear hb
    rw [he]
    have eT0 := bT.c0
    have eT1 := bT.c1
    have lT := bT.lt
    go_wp2_with fail
    clear eT0 eT1 lT
    clear he hq
    refine (isSymbol_any t.name hn _).mono ?_
    rintro e w1 ⟨_, rfl, hb, rfl⟩
    replace hW := hW.trans (hb.mono hW.size)
    replace bT := bT.keep hb
    replace hT := Tm.at_keep (Keeps.all hb) hT
    clear hb
    by_cases hsy : symName t.name = true
    · have HS : Hid (t.atom = t.valid) := by rw [Hid, HA.out, hsy]; rfl
      rw [hsy]
      clear hsy
      have eT0 := bT.c0
      have eT1 := bT.c1
      have lT := bT.lt
      go_wp2_with fail
      clear eT0 eT1 lT
      refine (isValidTerm_any t hT hbk).mono ?_
      rintro e w1 ⟨_, rfl, hb, rfl⟩
      replace hW := hW.trans (hb.mono hW.size)
      replace bT := bT.keep hb
      replace hT := Tm.at_keep (Keeps.all hb) hT
      clear hb
      have eT0 := bT.c0
      have eT1 := bT.c1
      have lT := bT.lt
      go_wp2_with fail
      clear eT0 eT1 lT
      go_ret
      exact Gives.mk (ret_bool HS.out.symm) hW
    · replace hsy : symName t.name = false := by simpa using hsy
      have HS : Hid (t.atom = false) := by rw [Hid, HA.out, hsy]; rfl
      rw [hsy]
      clear hsy
      have eT0 := bT.c0
      have eT1 := bT.c1
      go_wp2_with fail
      go_ret
      exact Gives.mk (ret_bool HS.out.symm) hW

set_option maxHeartbeats 2000000 in
theorem l2Atom_any (t : Tm) : PredIs 44 Tm.atom t := by
  intro S c0 c1 w hT hbk
  by_cases he : t.isEq = true
  · have hne : t.name = eqSign := by simpa [Tm.isEq] using he
    have HA : Hid (t.atom = (decide (t.args.length = 2) && t.small && Tm.namesAll t.args)) := by rw [Hid, Tm.atom_eq, if_pos hne]
    have hq : (t.name.toList == [61]) = true := by
      have h : ([61] : List UInt8) = eqSign.toList := by rw [ByteArray.toList_eq]; rfl
      rw [h, toList_beq, hne]; simp
    clear hne
    by_cases hl : t.args.length = 2
    · have hl2 : ((t.args.length : Int) == 2) = true := by rw [beq_iff_eq]; omega
      have HL := hid hl
      clear hl
      have hn2 : 2 ≤ t.args.length := by have := HL.out; omega
      obtain ⟨rfl, hn, a, cap, rfl⟩ := Tm.at_form hT
      have hW : Below w.heap.size w (w.alloc (.cells #[.string t.name, .slice a t.args.length cap] 28)) := (Below.refl _ _).alloc (Nat.le_refl _) _
      have bT : Box (w.alloc (.cells #[.string t.name, .slice a t.args.length cap] 28)) w.heap.size [.string t.name, .slice a t.args.length cap] := Box.new w _ _
      replace hT := Tm.at_keep (Keeps.all hW) hT
      go_enter Tryd.func44, Tryd.ntmps44
      go_wp2_with fail
      generalize (w.alloc (.cells #[.string t.name, .slice a t.args.length cap] 28)) = w0 at *
      have eT0 := bT.c0
      have eT1 := bT.c1
      skip
      clear eT0 eT1
      clear he hq hl2
      by_cases hsm : t.small = true
      · refine (l2Fits_any t hT hbk).mono ?_
        rintro e w1 ⟨_, rfl, hb, rfl⟩
        replace hW := hW.trans (hb.mono hW.size)
        replace bT := bT.keep hb
        replace hT := Tm.at_keep (Keeps.all hb) hT
        clear hb
        rw [hsm]
        have hnn : t.args ≠ [] := by intro e; rw [e] at hn2; simp at hn2
        have i0 : 0 < t.args.length := by omega
        have i1 : 1 < t.args.length := by omega
        obtain ⟨b, off, rfl, hS, hbl, hrr⟩ := Tm.sd_get hT.2 hnn
        obtain ⟨x0, x1, q0, q1, q2⟩ := hrr 0 i0
        obtain ⟨y0, y1, r0, r1, r2⟩ := hrr 1 i1
        clear hrr
        obtain ⟨rfl, -, xa, xc, rfl⟩ := Tm.at_form q2
        obtain ⟨rfl, -, ya, yc, rfl⟩ := Tm.at_form r2
        simp only [Nat.zero_mul, Nat.add_zero, Nat.one_mul] at q0 q1 r0 r1
        have hb0 : t.args[0].bulk ≤ 1048576 := by have := Tm.bulk_at i0; have := Tm.args_bulk t; omega
        have hb1 : t.args[1].bulk ≤ 1048576 := by have := Tm.bulk_at i1; have := Tm.args_bulk t; omega
        have j0 : (0 : Int) < t.args.length := by omega
        have j1 : (1 : Int) < t.args.length := by omega
        have HB : Hid (t.atom = (t.args[0].names && t.args[1].names)) := by
          rw [Hid, HA.out, hsm, Tm.namesAll_two HL.out]; simp [HL.out]
        clear hsm
        have eT0 := bT.c0
        have eT1 := bT.c1
        have lT := bT.lt
        go_wp2_with fail
        clear eT0 eT1 lT
        have HX := hid q0
        refine (l2Nodes_any (t.args[0]) q2 hb0).mono ?_
        rintro e w2 ⟨_, rfl, hb, rfl⟩
        replace hW := hW.trans (hb.mono hW.size)
        replace bT := bT.keep hb
        replace r0 := (hb.cell (p := ⟨b, off + 2, none⟩) hbl).trans r0
        replace r1 := (hb.cell (p := ⟨b, off + 2 + 1, none⟩) hbl).trans r1
        replace r2 := Tm.at_keep (Keeps.all hb) r2
        clear hb q0 q1 q2 HX
        by_cases hp : t.args[0].names = true
        · have HC : Hid (t.atom = t.args[1].names) := by rw [Hid, HB.out, hp]; rfl
          rw [hp]
          clear hp
          have eT0 := bT.c0
          have eT1 := bT.c1
          have lT := bT.lt
          go_wp2_with fail
          clear eT0 eT1 lT
          refine (l2Nodes_any (t.args[1]) r2 hb1).mono ?_
          rintro e w3 ⟨_, rfl, hb, rfl⟩
          go_wp2_with fail
          go_ret
          exact Gives.mk (ret_bool HC.out.symm) (hW.trans (hb.mono hW.size))
        · replace hp : t.args[0].names = false := by simpa using hp
          have HC : Hid (t.atom = false) := by rw [Hid, HB.out, hp]; rfl
          rw [hp]
          clear hp
          have eT0 := bT.c0
          have eT1 := bT.c1
          go_wp2_with fail
          go_ret
          exact Gives.mk (ret_bool HC.out.symm) hW
      · replace hsm : t.small = false := by simpa using hsm
        have HS : Hid (t.atom = false) := by rw [Hid, HA.out, hsm]; simp
        refine (l2Fits_any t hT hbk).mono ?_
        rintro e w1 ⟨_, rfl, hb, rfl⟩
        replace hW := hW.trans (hb.mono hW.size)
        replace bT := bT.keep hb
        replace hT := Tm.at_keep (Keeps.all hb) hT
        clear hb
        rw [hsm]
        have eT0 := bT.c0
        have eT1 := bT.c1
        have lT := bT.lt
        go_wp2_with fail
        clear eT0 eT1 lT
        go_ret
        exact Gives.mk (ret_bool HS.out.symm) hW
    · have hl2 : ((t.args.length : Int) == 2) = false := by rw [beq_eq_false_iff_ne]; omega
      have HS : Hid (t.atom = false) := by rw [Hid, HA.out]; simp [hl]
      clear hl
      obtain ⟨rfl, hn, a, cap, rfl⟩ := Tm.at_form hT
      have hW : Below w.heap.size w (w.alloc (.cells #[.string t.name, .slice a t.args.length cap] 28)) := (Below.refl _ _).alloc (Nat.le_refl _) _
      have bT : Box (w.alloc (.cells #[.string t.name, .slice a t.args.length cap] 28)) w.heap.size [.string t.name, .slice a t.args.length cap] := Box.new w _ _
      replace hT := Tm.at_keep (Keeps.all hW) hT
      go_enter Tryd.func44, Tryd.ntmps44
      go_wp2_with fail
      generalize (w.alloc (.cells #[.string t.name, .slice a t.args.length cap] 28)) = w0 at *
      have eT0 := bT.c0
      have eT1 := bT.c1
      skip
      clear eT0 eT1
      go_ret
      exact Gives.mk (ret_bool HS.out.symm) hW
  · replace he : t.isEq = false := by simpa using he
    have hne : ¬ t.name = eqSign := by simpa [Tm.isEq] using he
    have HA : Hid (t.atom = (symName t.name && t.valid)) := by rw [Hid, Tm.atom_eq, if_neg hne]
    have hq : (t.name.toList == [61]) = false := by
      have h : ([61] : List UInt8) = eqSign.toList := by rw [ByteArray.toList_eq]; rfl
      rw [h]; exact toList_ne hne
    clear hne
    obtain ⟨rfl, hn, a, cap, rfl⟩ := Tm.at_form hT
    have hW : Below w.heap.size w (w.alloc (.cells #[.string t.name, .slice a t.args.length cap] 28)) := (Below.refl _ _).alloc (Nat.le_refl _) _
    have bT : Box (w.alloc (.cells #[.string t.name, .slice a t.args.length cap] 28)) w.heap.size [.string t.name, .slice a t.args.length cap] := Box.new w _ _
    replace hT := Tm.at_keep (Keeps.all hW) hT
    go_enter Tryd.func44, Tryd.ntmps44
    go_wp2_with fail
    generalize (w.alloc (.cells #[.string t.name, .slice a t.args.length cap] 28)) = w0 at *
    have eT0 := bT.c0
    have eT1 := bT.c1
    skip
    clear eT0 eT1
    clear he hq
    refine (l2Symbol_any t.name hn _).mono ?_
    rintro e w' ⟨rfl, rfl⟩
    by_cases hsy : symName t.name = true
    · have HS : Hid (t.atom = t.valid) := by rw [Hid, HA.out, hsy]; rfl
      rw [hsy]
      clear hsy
      have eT0 := bT.c0
      have eT1 := bT.c1
      have lT := bT.lt
      go_wp2_with fail
      clear eT0 eT1 lT
      refine (l2Good_any t hT hbk).mono ?_
      rintro e w1 ⟨_, rfl, hb, rfl⟩
      replace hW := hW.trans (hb.mono hW.size)
      replace bT := bT.keep hb
      replace hT := Tm.at_keep (Keeps.all hb) hT
      clear hb
      have eT0 := bT.c0
      have eT1 := bT.c1
      have lT := bT.lt
      go_wp2_with fail
      clear eT0 eT1 lT
      go_ret
      exact Gives.mk (ret_bool HS.out.symm) hW
    · replace hsy : symName t.name = false := by simpa using hsy
      have HS : Hid (t.atom = false) := by rw [Hid, HA.out, hsy]; rfl
      rw [hsy]
      clear hsy
      have eT0 := bT.c0
      have eT1 := bT.c1
      go_wp2_with fail
      go_ret
      exact Gives.mk (ret_bool HS.out.symm) hW

theorem Tm.expr_eq (t : Tm) : t.expr = (t.valid || (t.isEq && t.atom)) := by
  rw [Tm.expr, Tm.atom_eq, Tm.isEq]
  by_cases h : t.name = eqSign
  · simp [h]
  · simp only [h, if_false, decide_false, Bool.false_and, Bool.or_false]
    cases t.valid <;> simp

set_option maxHeartbeats 1000000 in
theorem isExpression_any (t : Tm) : PredIs 27 Tm.expr t := by
  intro S c0 c1 w hT hbk
  have HE := hid (Tm.expr_eq t)
  obtain ⟨rfl, hn, a, cap, rfl⟩ := Tm.at_form hT
  have hW : Below w.heap.size w (w.alloc (.cells #[.string t.name, .slice a t.args.length cap] 28)) := (Below.refl _ _).alloc (Nat.le_refl _) _
  have bT : Box (w.alloc (.cells #[.string t.name, .slice a t.args.length cap] 28)) w.heap.size [.string t.name, .slice a t.args.length cap] := Box.new w _ _
  replace hT := Tm.at_keep (Keeps.all hW) hT
  go_enter Tryd.func27, Tryd.ntmps27
  go_wp2_with fail
  generalize (w.alloc (.cells #[.string t.name, .slice a t.args.length cap] 28)) = w0 at *
  by_cases h1 : t.valid = true
  · have HS : Hid (t.expr = true) := by rw [Hid, HE.out, h1]; rfl
    refine (isValidTerm_any t hT hbk).mono ?_
    rintro e w1 ⟨_, rfl, hb, rfl⟩
    replace hW := hW.trans (hb.mono hW.size)
    replace bT := bT.keep hb
    replace hT := Tm.at_keep (Keeps.all hb) hT
    clear hb
    rw [h1]
    have eT0 := bT.c0
    have eT1 := bT.c1
    have lT := bT.lt
    go_wp2_with fail
    clear eT0 eT1 lT
    go_ret
    exact Gives.mk (ret_bool HS.out.symm) hW
  · replace h1 : t.valid = false := by simpa using h1
    by_cases h2 : t.isEq = true
    · have HS : Hid (t.expr = t.atom) := by rw [Hid, HE.out, h1, h2]; rfl
      refine (isValidTerm_any t hT hbk).mono ?_
      rintro e w1 ⟨_, rfl, hb, rfl⟩
      replace hW := hW.trans (hb.mono hW.size)
      replace bT := bT.keep hb
      replace hT := Tm.at_keep (Keeps.all hb) hT
      clear hb
      rw [h1]
      have eT0 := bT.c0
      have eT1 := bT.c1
      have lT := bT.lt
      go_wp2_with fail
      clear eT0 eT1 lT
      refine (isEquality_any t hT hbk).mono ?_
      rintro e w1 ⟨_, rfl, hb, rfl⟩
      replace hW := hW.trans (hb.mono hW.size)
      replace bT := bT.keep hb
      replace hT := Tm.at_keep (Keeps.all hb) hT
      clear hb
      rw [h2]
      have eT0 := bT.c0
      have eT1 := bT.c1
      have lT := bT.lt
      go_wp2_with fail
      clear eT0 eT1 lT
      clear h1 h2
      refine (isValidAtom_any t hT hbk).mono ?_
      rintro e w1 ⟨_, rfl, hb, rfl⟩
      replace hW := hW.trans (hb.mono hW.size)
      replace bT := bT.keep hb
      replace hT := Tm.at_keep (Keeps.all hb) hT
      clear hb
      have eT0 := bT.c0
      have eT1 := bT.c1
      have lT := bT.lt
      go_wp2_with fail
      clear eT0 eT1 lT
      go_ret
      exact Gives.mk (ret_bool HS.out.symm) hW
    · replace h2 : t.isEq = false := by simpa using h2
      have HS : Hid (t.expr = false) := by rw [Hid, HE.out, h1, h2]; rfl
      refine (isValidTerm_any t hT hbk).mono ?_
      rintro e w1 ⟨_, rfl, hb, rfl⟩
      replace hW := hW.trans (hb.mono hW.size)
      replace bT := bT.keep hb
      replace hT := Tm.at_keep (Keeps.all hb) hT
      clear hb
      rw [h1]
      have eT0 := bT.c0
      have eT1 := bT.c1
      have lT := bT.lt
      go_wp2_with fail
      clear eT0 eT1 lT
      refine (isEquality_any t hT hbk).mono ?_
      rintro e w1 ⟨_, rfl, hb, rfl⟩
      replace hW := hW.trans (hb.mono hW.size)
      replace bT := bT.keep hb
      replace hT := Tm.at_keep (Keeps.all hb) hT
      clear hb
      rw [h2]
      have eT0 := bT.c0
      have eT1 := bT.c1
      have lT := bT.lt
      go_wp2_with fail
      clear eT0 eT1 lT
      go_ret
      exact Gives.mk (ret_bool HS.out.symm) hW
set_option maxHeartbeats 1000000 in
theorem l2Any_any (t : Tm) : PredIs 23 Tm.expr t := by
  intro S c0 c1 w hT hbk
  obtain ⟨rfl, hn, a, cap, rfl⟩ := Tm.at_form hT
  have hW : Below w.heap.size w (w.alloc (.cells #[.string t.name, .slice a t.args.length cap] 28)) := (Below.refl _ _).alloc (Nat.le_refl _) _
  have bT : Box (w.alloc (.cells #[.string t.name, .slice a t.args.length cap] 28)) w.heap.size [.string t.name, .slice a t.args.length cap] := Box.new w _ _
  replace hT := Tm.at_keep (Keeps.all hW) hT
  go_enter Tryd.func23, Tryd.ntmps23
  go_wp2_with fail
  generalize (w.alloc (.cells #[.string t.name, .slice a t.args.length cap] 28)) = w0 at *
  by_cases h1 : t.valid = true
  · have HS : Hid (t.expr = true) := by rw [Hid, Tm.expr, h1]; rfl
    refine (l2Good_any t hT hbk).mono ?_
    rintro e w1 ⟨_, rfl, hb, rfl⟩
    replace hW := hW.trans (hb.mono hW.size)
    replace bT := bT.keep hb
    replace hT := Tm.at_keep (Keeps.all hb) hT
    clear hb
    rw [h1]
    have eT0 := bT.c0
    have eT1 := bT.c1
    have lT := bT.lt
    go_wp2_with fail
    clear eT0 eT1 lT
    go_ret
    exact Gives.mk (ret_bool HS.out.symm) hW
  · replace h1 : t.valid = false := by simpa using h1
    have HS : Hid (t.expr = t.atom) := by rw [Hid, Tm.expr, h1]; rfl
    refine (l2Good_any t hT hbk).mono ?_
    rintro e w1 ⟨_, rfl, hb, rfl⟩
    replace hW := hW.trans (hb.mono hW.size)
    replace bT := bT.keep hb
    replace hT := Tm.at_keep (Keeps.all hb) hT
    clear hb
    rw [h1]
    have eT0 := bT.c0
    have eT1 := bT.c1
    have lT := bT.lt
    go_wp2_with fail
    clear eT0 eT1 lT
    clear h1
    refine (l2Atom_any t hT hbk).mono ?_
    rintro e w1 ⟨_, rfl, hb, rfl⟩
    replace hW := hW.trans (hb.mono hW.size)
    replace bT := bT.keep hb
    replace hT := Tm.at_keep (Keeps.all hb) hT
    clear hb
    have eT0 := bT.c0
    have eT1 := bT.c1
    have lT := bT.lt
    go_wp2_with fail
    clear eT0 eT1 lT
    go_ret
    exact Gives.mk (ret_bool HS.out.symm) hW
end Go.Proofs.YtglhbaigigdeeaaDoor
