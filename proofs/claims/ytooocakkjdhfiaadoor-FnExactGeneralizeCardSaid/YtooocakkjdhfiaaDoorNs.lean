/- The reference tells names of variables and of symbols. -/
import Derived.Test.YtooocakkjdhfiaaDoorNm
namespace Go.Proofs.YtooocakkjdhfiaaDoor
set_option maxRecDepth 100000
open Go.RowKit

set_option maxHeartbeats 2000000 in
theorem l2Var_any (s : ByteArray) (hs : s.size ≤ maxLen) (w : World) : Calls Tryd.prog 22 #[.string s] w fun e w' => e = .returned (.bool (varName s)) ∧ w = w' := by
  unfold maxLen at hs
  have HV : Hid (varName s = (allCh varCh s s.size && decide (1 ≤ s.size) && decide (s.size ≤ 4))) := rfl
  by_cases hin : 1 ≤ s.size ∧ s.size ≤ 4
  · have HI := inB_yes (n := s.size) (lo := 1) (hi := 4) (by omega) (by omega)
    have h0 : 0 < s.size := by omega
    have h0' : (0 : Int) < s.size := by omega
    have hbe := byteAt_eq h0
    have hlt256 := byteAt_lt s 0
    by_cases hu : 65 ≤ byteAt s 0
    · by_cases hu2 : byteAt s 0 ≤ 90
      · have H0 : Hid (allCh varCh s 1 = true) := by rw [Hid, allCh_succ, allCh_zero]; simp [varCh, upB, hu, hu2]
        have hq1 : ((byteAt s 0 : Int) < 65) = False := by simp; omega
        have hq2 : ¬ ((90 : Int) < (byteAt s 0 : Int)) := by omega
        go_enter Tryd.func22, Tryd.ntmps22
        go_wp2_with (first | (go_at_call 36; refine (l1In_any _ _ _ _).mono ?_; rintro e w' ⟨rfl, rfl⟩; rw [HI]))
        clear hq1 hq2 hbe
        go_loop [3] (fun i => ∃ k : Nat, 1 ≤ k ∧ k ≤ s.size ∧ i = .int .i64 k ∧ Hid (allCh varCh s k = true)) (fun i => s.size - (intOf i).toNat)
        case atStart => exact ⟨1, Nat.le_refl _, h0, rfl, H0⟩
        case round =>
          obtain ⟨k, hk1, hk, rfl, HX⟩ := hrel
          by_cases hlt : k < s.size
          · have hbe := byteAt_eq hlt
            have hstep := hid (allCh_succ varCh s k)
            have hlt0 : (k : Int) < s.size := by omega
            have hk0 : k ≠ 0 := by omega
            by_cases HA : (lowB (byteAt s k) || digB (byteAt s k)) = true
            · have HS : Hid (allCh varCh s (k + 1) = true) := by rw [Hid, hstep.out, HX.out]; simp only [varCh, hk0, if_false, HA]; rfl
              go_wp2_with (first | (go_at_call 37; refine (l2Small_any _ _).mono ?_; rintro e w' ⟨rfl, rfl⟩; rw [HA]))
              go_round
              case rel => exact ⟨k + 1, by omega, by omega, by go_num, HS⟩
              case measure => simp [intOf]; omega
            · replace HA : (lowB (byteAt s k) || digB (byteAt s k)) = false := Bool.eq_false_iff.2 HA
              have HS : Hid (varName s = false) := by rw [Hid, HV.out, allCh_no hlt (by simp only [varCh, hk0, if_false, HA])]; rfl
              go_wp2_with (first | (go_at_call 37; refine (l2Small_any _ _).mono ?_; rintro e w' ⟨rfl, rfl⟩; rw [HA]))
              go_ret
              exact ⟨ret_bool HS.out.symm, rfl⟩
          · obtain rfl : k = s.size := by omega
            have HS : Hid (varName s = true) := by rw [Hid, HV.out, HX.out]; simp [hin]
            go_wp2_with fail
            go_ret
            exact ⟨ret_bool HS.out.symm, rfl⟩
      · have HS : Hid (varName s = false) := by rw [Hid, HV.out, allCh_no h0 (by simp [varCh, upB, hu2])]; rfl
        go_enter Tryd.func22, Tryd.ntmps22
        go_wp2_with (first | (go_at_call 36; refine (l1In_any _ _ _ _).mono ?_; rintro e w' ⟨rfl, rfl⟩; rw [HI]))
        go_ret
        exact ⟨ret_bool HS.out.symm, rfl⟩
    · have HS : Hid (varName s = false) := by rw [Hid, HV.out, allCh_no h0 (by simp [varCh, upB, hu])]; rfl
      go_enter Tryd.func22, Tryd.ntmps22
      go_wp2_with (first | (go_at_call 36; refine (l1In_any _ _ _ _).mono ?_; rintro e w' ⟨rfl, rfl⟩; rw [HI]))
      go_ret
      exact ⟨ret_bool HS.out.symm, rfl⟩
  · have HI := inB_no (n := s.size) (lo := 1) (hi := 4) (by omega)
    have HS : Hid (varName s = false) := by rw [Hid, HV.out, Bool.eq_false_iff]; intro e; simp at e; omega
    go_enter Tryd.func22, Tryd.ntmps22
    go_wp2_with (first | (go_at_call 36; refine (l1In_any _ _ _ _).mono ?_; rintro e w' ⟨rfl, rfl⟩; rw [HI]))
    go_ret
    exact ⟨ret_bool HS.out.symm, rfl⟩

/-- the string is none of the reserved: each comparison fails -/
theorem notReserved {s : ByteArray} (h : hasStr reservedL s = false) (r : ByteArray) (hr : r ∈ reservedL) (l : List UInt8) (hl : r.data.toList = l) : (s.toList == l) = false := by
  subst hl
  rw [← ByteArray.toList_eq]
  refine toList_ne fun e => ?_
  subst e
  rw [(hasStr_iff _ _).2 hr] at h
  exact absurd h (by simp)

set_option maxHeartbeats 4000000 in
theorem l2Symbol_any (s : ByteArray) (hs : s.size ≤ maxLen) (w : World) : Calls Tryd.prog 35 #[.string s] w fun e w' => e = .returned (.bool (symName s)) ∧ w = w' := by
  unfold maxLen at hs
  have HV : Hid (symName s = (allCh symCh s s.size && decide (1 ≤ s.size) && decide (s.size ≤ 6) && !hasStr reservedL s)) := rfl
  by_cases hin : 1 ≤ s.size ∧ s.size ≤ 6
  · have HI := inB_yes (n := s.size) (lo := 1) (hi := 6) (by omega) (by omega)
    have h0 : 0 < s.size := by omega
    have h0' : (0 : Int) < s.size := by omega
    have hbe := byteAt_eq h0
    have hlt256 := byteAt_lt s 0
    by_cases hu : 97 ≤ byteAt s 0
    · by_cases hu2 : byteAt s 0 ≤ 122
      · have H0 : Hid (allCh symCh s 1 = true) := by rw [Hid, allCh_succ, allCh_zero]; simp [symCh, lowB, hu, hu2]
        have hq1 : ((byteAt s 0 : Int) < 97) = False := by simp; omega
        have hq2 : ¬ ((122 : Int) < (byteAt s 0 : Int)) := by omega
        by_cases hr : hasStr reservedL s = true
        · have HS : Hid (symName s = false) := by rw [Hid, HV.out, hr]; simp
          have hm := (hasStr_iff _ _).1 hr
          clear hr HV H0
          simp only [reservedL, List.mem_cons, List.not_mem_nil, or_false] at hm
          rcases hm with e | e | e | e | e | e | e | e
          all_goals
            have hl : s.toList = _ := (congrArg ByteArray.toList e).trans (ByteArray.toList_eq _)
            have HE := hid e
            clear e
            go_enter Tryd.func35, Tryd.ntmps35
            go_wp2_with (first | (go_at_call 36; refine (l1In_any _ _ _ _).mono ?_; rintro e w' ⟨rfl, rfl⟩; rw [HI]))
            go_ret
            exact ⟨ret_bool HS.out.symm, rfl⟩
        · replace hr : hasStr reservedL s = false := by simpa using hr
          have n0 : (s.toList == [116, 114, 117, 101]) = false := notReserved hr ⟨#[116, 114, 117, 101]⟩ (by simp [reservedL]) _ rfl
          have n1 : (s.toList == [102, 97, 108, 115, 101]) = false := notReserved hr ⟨#[102, 97, 108, 115, 101]⟩ (by simp [reservedL]) _ rfl
          have n2 : (s.toList == [116, 114, 117, 116, 104]) = false := notReserved hr ⟨#[116, 114, 117, 116, 104]⟩ (by simp [reservedL]) _ rfl
          have n3 : (s.toList == [98, 111, 116, 104]) = false := notReserved hr ⟨#[98, 111, 116, 104]⟩ (by simp [reservedL]) _ rfl
          have n4 : (s.toList == [101, 105, 116, 104, 101, 114]) = false := notReserved hr ⟨#[101, 105, 116, 104, 101, 114]⟩ (by simp [reservedL]) _ rfl
          have n5 : (s.toList == [105, 102]) = false := notReserved hr ⟨#[105, 102]⟩ (by simp [reservedL]) _ rfl
          have n6 : (s.toList == [97, 108, 108]) = false := notReserved hr ⟨#[97, 108, 108]⟩ (by simp [reservedL]) _ rfl
          have n7 : (s.toList == [115, 111, 109, 101]) = false := notReserved hr ⟨#[115, 111, 109, 101]⟩ (by simp [reservedL]) _ rfl
          have HR := hid hr
          clear hr
          go_enter Tryd.func35, Tryd.ntmps35
          go_wp2_with (first | (go_at_call 36; refine (l1In_any _ _ _ _).mono ?_; rintro e w' ⟨rfl, rfl⟩; rw [HI]))
          clear hq1 hq2 hbe
          go_loop [3] (fun i => ∃ k : Nat, 1 ≤ k ∧ k ≤ s.size ∧ i = .int .i64 k ∧ Hid (allCh symCh s k = true)) (fun i => s.size - (intOf i).toNat)
          case atStart => exact ⟨1, Nat.le_refl _, h0, rfl, H0⟩
          case round =>
            obtain ⟨k, hk1, hk, rfl, HX⟩ := hrel
            by_cases hlt : k < s.size
            · have hbe := byteAt_eq hlt
              have hstep := hid (allCh_succ symCh s k)
              have hlt0 : (k : Int) < s.size := by omega
              have hk0 : k ≠ 0 := by omega
              by_cases HA : (lowB (byteAt s k) || digB (byteAt s k)) = true
              · have HS : Hid (allCh symCh s (k + 1) = true) := by rw [Hid, hstep.out, HX.out]; simp only [symCh, hk0, if_false, HA]; rfl
                go_wp2_with (first | (go_at_call 37; refine (l2Small_any _ _).mono ?_; rintro e w' ⟨rfl, rfl⟩; rw [HA]))
                go_round
                case rel => exact ⟨k + 1, by omega, by omega, by go_num, HS⟩
                case measure => simp [intOf]; omega
              · replace HA : (lowB (byteAt s k) || digB (byteAt s k)) = false := Bool.eq_false_iff.2 HA
                by_cases hv : byteAt s k = 95
                · have HS : Hid (allCh symCh s (k + 1) = true) := by rw [Hid, hstep.out, HX.out]; simp only [symCh, hk0, if_false, hv]; rfl
                  have hq : ((byteAt s k : Int) != 95) = false := by rw [hv]; rfl
                  have hq' : ((byteAt s k : Int) == 95) = true := by rw [hv]; rfl
                  clear hv
                  go_wp2_with (first | (go_at_call 37; refine (l2Small_any _ _).mono ?_; rintro e w' ⟨rfl, rfl⟩; rw [HA]))
                  go_round
                  case rel => exact ⟨k + 1, by omega, by omega, by go_num, HS⟩
                  case measure => simp [intOf]; omega
                · have HS : Hid (symName s = false) := by rw [Hid, HV.out, allCh_no hlt (by simp only [symCh, hk0, if_false, HA]; simpa using hv)]; rfl
                  have hq : ((byteAt s k : Int) != 95) = true := by rw [bne_iff_ne]; omega
                  have hq' : ((byteAt s k : Int) == 95) = false := by rw [beq_eq_false_iff_ne]; omega
                  clear hv
                  go_wp2_with (first | (go_at_call 37; refine (l2Small_any _ _).mono ?_; rintro e w' ⟨rfl, rfl⟩; rw [HA]))
                  go_ret
                  exact ⟨ret_bool HS.out.symm, rfl⟩
            · obtain rfl : k = s.size := by omega
              have HS : Hid (symName s = true) := by rw [Hid, HV.out, HX.out, HR.out]; simp [hin]
              go_wp2_with fail
              go_ret
              exact ⟨ret_bool HS.out.symm, rfl⟩
      · have HS : Hid (symName s = false) := by rw [Hid, HV.out, allCh_no h0 (by simp [symCh, lowB, hu2])]; rfl
        go_enter Tryd.func35, Tryd.ntmps35
        go_wp2_with (first | (go_at_call 36; refine (l1In_any _ _ _ _).mono ?_; rintro e w' ⟨rfl, rfl⟩; rw [HI]))
        go_ret
        exact ⟨ret_bool HS.out.symm, rfl⟩
    · have HS : Hid (symName s = false) := by rw [Hid, HV.out, allCh_no h0 (by simp [symCh, lowB, hu])]; rfl
      go_enter Tryd.func35, Tryd.ntmps35
      go_wp2_with (first | (go_at_call 36; refine (l1In_any _ _ _ _).mono ?_; rintro e w' ⟨rfl, rfl⟩; rw [HI]))
      go_ret
      exact ⟨ret_bool HS.out.symm, rfl⟩
  · have HI := inB_no (n := s.size) (lo := 1) (hi := 6) (by omega)
    have HS : Hid (symName s = false) := by rw [Hid, HV.out, Bool.eq_false_iff]; intro e; simp at e; omega
    go_enter Tryd.func35, Tryd.ntmps35
    go_wp2_with (first | (go_at_call 36; refine (l1In_any _ _ _ _).mono ?_; rintro e w' ⟨rfl, rfl⟩; rw [HI]))
    go_ret
    exact ⟨ret_bool HS.out.symm, rfl⟩
end Go.Proofs.YtooocakkjdhfiaaDoor
