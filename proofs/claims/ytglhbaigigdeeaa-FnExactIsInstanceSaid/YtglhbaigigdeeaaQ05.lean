/- Several texts in one file. -/
import Derived.Test.YtglhbaigigdeeaaRows
import Derived.Test.YtglhbaigigdeeaaQ03
import Derived.Test.YtglhbaigigdeeaaQ01
import Derived.Test.YtglhbaigigdeeaaQ02
import Derived.Test.YtglhbaigigdeeaaQ04
import Derived.WalkSpells
import Derived.WalkLawsBesides
/- The program and the reference tell names of variables and of symbols. -/
namespace Go.Proofs.Ytglhbaigigdeeaa
set_option maxRecDepth 100000
open Go.RowKit

theorem isLower_any (n : Nat) (w : World) : Calls Try.prog 68 #[.int .u8 n] w fun e w' => e = .returned (.bool (lowB n)) ∧ w = w' := by
  have H : Hid (lowB n = (decide (97 ≤ n) && decide (n ≤ 122))) := rfl
  by_cases h1 : 97 ≤ n
  all_goals
    go_enter Try.func68, Try.ntmps68
    go_wp2
    go_ret
    exact ⟨ret_bool (by rw [H.out, Bool.eq_iff_iff]; simp; omega), rfl⟩
theorem isDigit_any (n : Nat) (w : World) : Calls Try.prog 69 #[.int .u8 n] w fun e w' => e = .returned (.bool (digB n)) ∧ w = w' := by
  have H : Hid (digB n = (decide (48 ≤ n) && decide (n ≤ 57))) := rfl
  by_cases h1 : 48 ≤ n
  all_goals
    go_enter Try.func69, Try.ntmps69
    go_wp2
    go_ret
    exact ⟨ret_bool (by rw [H.out, Bool.eq_iff_iff]; simp; omega), rfl⟩
theorem isUpper_any (n : Nat) (w : World) : Calls Try.prog 73 #[.int .u8 n] w fun e w' => e = .returned (.bool (upB n)) ∧ w = w' := by
  have H : Hid (upB n = (decide (65 ≤ n) && decide (n ≤ 90))) := rfl
  by_cases h1 : 65 ≤ n
  all_goals
    go_enter Try.func73, Try.ntmps73
    go_wp2
    go_ret
    exact ⟨ret_bool (by rw [H.out, Bool.eq_iff_iff]; simp; omega), rfl⟩
theorem l2Small_any (n : Nat) (w : World) : Calls Try.prog 49 #[.int .u8 n] w fun e w' => e = .returned (.bool (lowB n || digB n)) ∧ w = w' := by
  have H : Hid ((lowB n || digB n) = ((decide (97 ≤ n) && decide (n ≤ 122)) || (decide (48 ≤ n) && decide (n ≤ 57)))) := rfl
  by_cases h1 : 97 ≤ n
  · by_cases h2 : n ≤ 122
    all_goals
      by_cases h3 : 48 ≤ n
      all_goals
        go_enter Try.func49, Try.ntmps49
        go_wp2
        all_goals
          go_ret
          exact ⟨ret_bool (by rw [H.out, Bool.eq_iff_iff]; simp; omega), rfl⟩
  · by_cases h3 : 48 ≤ n
    all_goals
      go_enter Try.func49, Try.ntmps49
      go_wp2
      go_ret
      exact ⟨ret_bool (by rw [H.out, Bool.eq_iff_iff]; simp; omega), rfl⟩
set_option maxHeartbeats 1000000 in
theorem isVariable_any (s : ByteArray) (hs : s.size ≤ maxLen) (w : World) : Calls Try.prog 65 #[.string s] w fun e w' => e = .returned (.bool (varName s)) ∧ w = w' := by
  unfold maxLen at hs
  have HV : Hid (varName s = (allCh varCh s s.size && decide (1 ≤ s.size) && decide (s.size ≤ 4))) := rfl
  go_enter Try.func65, Try.ntmps65
  go_wp2_with fail
  go_loop [6] (fun i => ∃ k : Nat, k ≤ s.size ∧ i = .int .i64 k ∧ Hid (allCh varCh s k = true)) (fun i => s.size - (intOf i).toNat)
  case atStart => exact ⟨0, Nat.zero_le _, rfl, allCh_zero _ _⟩
  case round =>
    obtain ⟨k, hk, rfl, HX⟩ := hrel
    by_cases hlt : k < s.size
    · have hbe := byteAt_eq hlt
      have hstep := hid (allCh_succ varCh s k)
      have hlt0 : (k : Int) < s.size := by omega
      by_cases h0 : k = 0
      · subst h0
        by_cases HU : upB (byteAt s 0) = true
        · have HS : Hid (allCh varCh s (0 + 1) = true) := by rw [Hid, hstep.out, HX.out]; simp [varCh, HU]
          go_wp2_with (first | (go_at_call 73; refine (isUpper_any _ _).mono ?_; rintro e w' ⟨rfl, rfl⟩; rw [HU]))
          go_round
          case rel => exact ⟨0 + 1, by omega, by go_num, HS⟩
          case measure => simp [intOf]; omega
        · replace HU : upB (byteAt s 0) = false := by simpa using HU
          have HS : Hid (varName s = false) := by rw [Hid, HV.out, allCh_no hlt (by simp [varCh, HU])]; rfl
          go_wp2_with (first | (go_at_call 73; refine (isUpper_any _ _).mono ?_; rintro e w' ⟨rfl, rfl⟩; rw [HU]))
          go_ret
          exact ⟨ret_bool HS.out.symm, rfl⟩
      · have hk0 : ((k : Int) == 0) = false := by rw [beq_eq_false_iff_ne]; omega
        have hk1 : 0 < (k : Int) := by omega
        by_cases HL : lowB (byteAt s k) = true
        · have HS : Hid (allCh varCh s (k + 1) = true) := by rw [Hid, hstep.out, HX.out]; simp [varCh, HL, h0]
          go_wp2_with (first | (go_at_call 68; refine (isLower_any _ _).mono ?_; rintro e w' ⟨rfl, rfl⟩; rw [HL]))
          go_round
          case rel => exact ⟨k + 1, by omega, by go_num, HS⟩
          case measure => simp [intOf]; omega
        · replace HL : lowB (byteAt s k) = false := by simpa using HL
          by_cases HD : digB (byteAt s k) = true
          · have HS : Hid (allCh varCh s (k + 1) = true) := by rw [Hid, hstep.out, HX.out]; simp [varCh, HD, h0]
            go_wp2_with (first | (go_at_call 68; refine (isLower_any _ _).mono ?_; rintro e w' ⟨rfl, rfl⟩; rw [HL]) | (go_at_call 69; refine (isDigit_any _ _).mono ?_; rintro e w' ⟨rfl, rfl⟩; rw [HD]))
            go_round
            case rel => exact ⟨k + 1, by omega, by go_num, HS⟩
            case measure => simp [intOf]; omega
          · replace HD : digB (byteAt s k) = false := by simpa using HD
            have HS : Hid (varName s = false) := by rw [Hid, HV.out, allCh_no hlt (by simp [varCh, h0, HL, HD])]; rfl
            go_wp2_with (first | (go_at_call 68; refine (isLower_any _ _).mono ?_; rintro e w' ⟨rfl, rfl⟩; rw [HL]) | (go_at_call 69; refine (isDigit_any _ _).mono ?_; rintro e w' ⟨rfl, rfl⟩; rw [HD]))
            go_ret
            exact ⟨ret_bool HS.out.symm, rfl⟩
    · obtain rfl : k = s.size := by omega
      have HS : Hid (varName s = inB s.size 1 4) := by rw [Hid, HV.out, HX.out, Bool.eq_iff_iff]; simp [inB]; omega
      go_wp2_with (first | (go_at_call 70; refine (within_any _ _ _ _).mono ?_; rintro e w' ⟨rfl, rfl⟩))
      go_ret
      exact ⟨ret_bool HS.out.symm, rfl⟩

/-- r tells whether s is in the list -/
def Found (ss : List ByteArray) (s : ByteArray) (w : World) (e : Ending) (w' : World) : Prop := ∃ r : Int, e = .returned (.int .i64 r) ∧ ((0 ≤ r ∧ hasStr ss s = true) ∨ (r < 0 ∧ hasStr ss s = false)) ∧ w = w'

set_option maxHeartbeats 400000 in
theorem indexStr_any {S : Nat → Prop} {v : Value} {ss : List ByteArray} (s : ByteArray) {w : World} (h : D.rd S w v (slOf strE ss)) : Calls Try.prog 81 #[v, .string s] w (Found ss s w) := by
  obtain ⟨a, cap, rfl, hlen, hcap⟩ := slOf_form h
  unfold big at hlen
  go_enter Try.func81, Try.ntmps81
  go_wp2_with fail
  go_loop [8] (fun i => ∃ k : Nat, k ≤ ss.length ∧ i = .int .i64 k ∧ Hid (s ∉ ss.take k)) (fun i => ss.length - (intOf i).toNat)
  case atStart => exact ⟨0, Nat.zero_le _, rfl, by simp [Hid]⟩
  case round =>
    obtain ⟨k, hk, rfl, HX⟩ := hrel
    by_cases hlt : k < ss.length
    · have hne : ss ≠ [] := by intro e; subst e; simp at hlt
      obtain ⟨b, off, rfl, hS, hbl, hrr⟩ := strs_get h hne
      obtain ⟨q0, q1⟩ := hrr k hlt
      clear h hrr
      by_cases he : s = ss[k]
      · have hq : (s.toList == ss[k].toList) = true := by rw [toList_beq]; simpa using he
        have HF : Hid (hasStr ss s = true) := (hasStr_iff _ _).2 (he ▸ List.getElem_mem hlt)
        clear he
        go_wp2_with fail
        go_ret
        exact ⟨k, rfl, .inl ⟨by omega, HF.out⟩, rfl⟩
      · have hq : (s.toList == ss[k].toList) = false := toList_ne he
        have HF : Hid (s ∉ ss.take (k + 1)) := by
          rw [Hid, List.take_succ_eq_append_getElem hlt, List.mem_append]
          rintro (q | q)
          · exact HX.out q
          · exact he (by simpa using q)
        clear he
        go_wp2_with fail
        go_round
        case rel => exact ⟨k + 1, by omega, by go_num, HF⟩
        case measure => simp [intOf]; omega
    · obtain rfl : k = ss.length := by omega
      have HF : Hid (hasStr ss s = false) := by
        rw [Hid, Bool.eq_false_iff, Ne, hasStr_iff]
        have := HX.out
        rwa [List.take_length] at this
      go_wp2_with fail
      go_ret
      exact ⟨-1, rfl, .inr ⟨by omega, HF.out⟩, rfl⟩

set_option maxHeartbeats 400000 in
theorem containsStr_any {S : Nat → Prop} {v : Value} {ss : List ByteArray} (s : ByteArray) {w : World} (h : D.rd S w v (slOf strE ss)) : Calls Try.prog 71 #[v, .string s] w fun e w' => e = .returned (.bool (hasStr ss s)) ∧ w = w' := by
  go_enter Try.func71, Try.ntmps71
  go_wp2_with fail
  refine (indexStr_any s h).mono ?_
  rintro e w' ⟨r, rfl, hr, rfl⟩
  rcases hr with ⟨h0, h1⟩ | ⟨h0, h1⟩
  · have H := hid h1
    clear h1
    go_wp2_with fail
    go_ret
    exact ⟨ret_bool H.out.symm, rfl⟩
  · have H := hid h1
    clear h1
    go_wp2_with fail
    go_ret
    exact ⟨ret_bool (by rw [H.out]; simp; omega), rfl⟩

theorem reserved_any (w : World) : Calls Try.prog 72 #[] w (Yields w fun v w' => D.rd (fun _ => True) w' v (slOf strE reservedL)) := by
  go_enter Try.func72, Try.ntmps72
  go_wp2_with fail
  go_ret
  refine ⟨_, rfl, (Below.refl _ _).alloc (Nat.le_refl _) _, ?_⟩
  refine slOf_strs (ss := reservedL) trivial (by simp) (by decide) (fun i hi => ?_) (by decide)
  rw [box1]
  match i, hi with
  | 0, _ => exact ⟨rfl, by simp [reservedL, ByteArray.size, maxLen]⟩
  | 1, _ => exact ⟨rfl, by simp [reservedL, ByteArray.size, maxLen]⟩
  | 2, _ => exact ⟨rfl, by simp [reservedL, ByteArray.size, maxLen]⟩
  | 3, _ => exact ⟨rfl, by simp [reservedL, ByteArray.size, maxLen]⟩
  | 4, _ => exact ⟨rfl, by simp [reservedL, ByteArray.size, maxLen]⟩
  | 5, _ => exact ⟨rfl, by simp [reservedL, ByteArray.size, maxLen]⟩
  | 6, _ => exact ⟨rfl, by simp [reservedL, ByteArray.size, maxLen]⟩
  | 7, _ => exact ⟨rfl, by simp [reservedL, ByteArray.size, maxLen]⟩

set_option maxHeartbeats 2000000 in
theorem isSymbol_any (s : ByteArray) (hs : s.size ≤ maxLen) (w : World) : Calls Try.prog 53 #[.string s] w (Gives w (.bool (symName s))) := by
  unfold maxLen at hs
  have HV : Hid (symName s = (allCh symCh s s.size && decide (1 ≤ s.size) && decide (s.size ≤ 6) && !hasStr reservedL s)) := rfl
  go_enter Try.func53, Try.ntmps53
  go_wp2_with fail
  go_loop [6] (fun i => ∃ k : Nat, k ≤ s.size ∧ i = .int .i64 k ∧ Hid (allCh symCh s k = true)) (fun i => s.size - (intOf i).toNat)
  case atStart => exact ⟨0, Nat.zero_le _, rfl, allCh_zero _ _⟩
  case round =>
    obtain ⟨k, hk, rfl, HX⟩ := hrel
    by_cases hlt : k < s.size
    · have hbe := byteAt_eq hlt
      have hstep := hid (allCh_succ symCh s k)
      have hlt0 : (k : Int) < s.size := by omega
      by_cases h0 : k = 0
      · subst h0
        by_cases HL : lowB (byteAt s 0) = true
        · have HS : Hid (allCh symCh s (0 + 1) = true) := by rw [Hid, hstep.out, HX.out]; simp [symCh, HL]
          go_wp2_with (first | (go_at_call 68; refine (isLower_any _ _).mono ?_; rintro e w' ⟨rfl, rfl⟩; rw [HL]))
          go_round
          case rel => exact ⟨0 + 1, by omega, by go_num, HS⟩
          case measure => simp [intOf]; omega
        · replace HL : lowB (byteAt s 0) = false := by simpa using HL
          have HS : Hid (symName s = false) := by rw [Hid, HV.out, allCh_no hlt (by simp [symCh, HL])]; rfl
          go_wp2_with (first | (go_at_call 68; refine (isLower_any _ _).mono ?_; rintro e w' ⟨rfl, rfl⟩; rw [HL]))
          go_ret
          exact Gives.mk (ret_bool HS.out.symm) (Below.refl _ _)
      · have hk0 : ((k : Int) == 0) = false := by rw [beq_eq_false_iff_ne]; omega
        by_cases HL : lowB (byteAt s k) = true
        · have HS : Hid (allCh symCh s (k + 1) = true) := by rw [Hid, hstep.out, HX.out]; simp [symCh, HL, h0]
          go_wp2_with (first | (go_at_call 68; refine (isLower_any _ _).mono ?_; rintro e w' ⟨rfl, rfl⟩; rw [HL]))
          go_round
          case rel => exact ⟨k + 1, by omega, by go_num, HS⟩
          case measure => simp [intOf]; omega
        · replace HL : lowB (byteAt s k) = false := by simpa using HL
          by_cases HD : digB (byteAt s k) = true
          · have HS : Hid (allCh symCh s (k + 1) = true) := by rw [Hid, hstep.out, HX.out]; simp [symCh, HD, h0]
            go_wp2_with (first | (go_at_call 68; refine (isLower_any _ _).mono ?_; rintro e w' ⟨rfl, rfl⟩; rw [HL]) | (go_at_call 69; refine (isDigit_any _ _).mono ?_; rintro e w' ⟨rfl, rfl⟩; rw [HD]))
            go_round
            case rel => exact ⟨k + 1, by omega, by go_num, HS⟩
            case measure => simp [intOf]; omega
          · replace HD : digB (byteAt s k) = false := by simpa using HD
            by_cases hu : byteAt s k = 95
            · have HS : Hid (allCh symCh s (k + 1) = true) := by rw [Hid, hstep.out, HX.out]; simp [symCh, hu, h0]
              have hq : ((byteAt s k : Int) != 95) = false := by rw [hu]; rfl
              have hq' : ((byteAt s k : Int) == 95) = true := by rw [hu]; rfl
              clear hu
              go_wp2_with (first | (go_at_call 68; refine (isLower_any _ _).mono ?_; rintro e w' ⟨rfl, rfl⟩; rw [HL]) | (go_at_call 69; refine (isDigit_any _ _).mono ?_; rintro e w' ⟨rfl, rfl⟩; rw [HD]))
              go_round
              case rel => exact ⟨k + 1, by omega, by go_num, HS⟩
              case measure => simp [intOf]; omega
            · have HS : Hid (symName s = false) := by rw [Hid, HV.out, allCh_no hlt (by simp [symCh, h0, HL, HD, hu])]; rfl
              have hq : ((byteAt s k : Int) != 95) = true := by rw [bne_iff_ne]; omega
              have hq' : ((byteAt s k : Int) == 95) = false := by rw [beq_eq_false_iff_ne]; omega
              clear hu
              go_wp2_with (first | (go_at_call 68; refine (isLower_any _ _).mono ?_; rintro e w' ⟨rfl, rfl⟩; rw [HL]) | (go_at_call 69; refine (isDigit_any _ _).mono ?_; rintro e w' ⟨rfl, rfl⟩; rw [HD]))
              go_ret
              exact Gives.mk (ret_bool HS.out.symm) (Below.refl _ _)
    · obtain rfl : k = s.size := by omega
      by_cases hin : 1 ≤ s.size ∧ s.size ≤ 6
      · have HI := inB_yes (n := s.size) (lo := 1) (hi := 6) (by omega) (by omega)
        have HS : Hid (symName s = !hasStr reservedL s) := by rw [Hid, HV.out, HX.out]; simp [hin]
        go_wp2_with (first | (go_at_call 70; refine (within_any _ _ _ _).mono ?_; rintro e w' ⟨rfl, rfl⟩; rw [HI]))
        refine (reserved_any _).mono ?_
        rintro e w1 ⟨v, rfl, hb, hr⟩
        go_wp2_with fail
        refine (containsStr_any s hr).mono ?_
        rintro e w' ⟨rfl, rfl⟩
        go_wp2_with fail
        go_ret
        exact Gives.mk (ret_bool HS.out.symm) hb
      · have HI := inB_no (n := s.size) (lo := 1) (hi := 6) (by omega)
        have HS : Hid (symName s = false) := by rw [Hid, HV.out, Bool.eq_false_iff]; intro e; simp at e; omega
        go_wp2_with (first | (go_at_call 70; refine (within_any _ _ _ _).mono ?_; rintro e w' ⟨rfl, rfl⟩; rw [HI]))
        go_ret
        exact Gives.mk (ret_bool HS.out.symm) (Below.refl _ _)
end Go.Proofs.Ytglhbaigigdeeaa
/- The reference tells names of variables and of symbols. -/
namespace Go.Proofs.Ytglhbaigigdeeaa
set_option maxRecDepth 100000
open Go.RowKit

set_option maxHeartbeats 2000000 in
theorem l2Var_any (s : ByteArray) (hs : s.size ≤ maxLen) (w : World) : Calls Try.prog 34 #[.string s] w fun e w' => e = .returned (.bool (varName s)) ∧ w = w' := by
  unfold maxLen at hs
  have HV : Hid (varName s = (allCh varCh s s.size && decide (1 ≤ s.size) && decide (s.size ≤ 4))) := rfl
  by_cases hin : 1 ≤ s.size ∧ s.size ≤ 4
  · have HI := inB_yes (n := s.size) (lo := 1) (hi := 4) (by omega) (by omega)
    have h0 : 0 < s.size := by omega
    have h0' : (0 : Int) < s.size := by omega
    have hbe := byteAt_eq h0
    have hlt256 := byteAt_lt s 0
    by_cases hu : 65 ≤ byteAt s 0
    · by_cases hu2 : byteAt s 0 ≤ 90
      · have H0 : Hid (allCh varCh s 1 = true) := by rw [Hid, allCh_succ, allCh_zero]; simp [varCh, upB, hu, hu2]
        have hq1 : ((byteAt s 0 : Int) < 65) = False := by simp; omega
        have hq2 : ¬ ((90 : Int) < (byteAt s 0 : Int)) := by omega
        go_enter Try.func34, Try.ntmps34
        go_wp2_with (first | (go_at_call 48; refine (l1In_any _ _ _ _).mono ?_; rintro e w' ⟨rfl, rfl⟩; rw [HI]))
        clear hq1 hq2 hbe
        go_loop [3] (fun i => ∃ k : Nat, 1 ≤ k ∧ k ≤ s.size ∧ i = .int .i64 k ∧ Hid (allCh varCh s k = true)) (fun i => s.size - (intOf i).toNat)
        case atStart => exact ⟨1, Nat.le_refl _, h0, rfl, H0⟩
        case round =>
          obtain ⟨k, hk1, hk, rfl, HX⟩ := hrel
          by_cases hlt : k < s.size
          · have hbe := byteAt_eq hlt
            have hstep := hid (allCh_succ varCh s k)
            have hlt0 : (k : Int) < s.size := by omega
            have hk0 : k ≠ 0 := by omega
            by_cases HA : (lowB (byteAt s k) || digB (byteAt s k)) = true
            · have HS : Hid (allCh varCh s (k + 1) = true) := by rw [Hid, hstep.out, HX.out]; simp only [varCh, hk0, if_false, HA]; rfl
              go_wp2_with (first | (go_at_call 49; refine (l2Small_any _ _).mono ?_; rintro e w' ⟨rfl, rfl⟩; rw [HA]))
              go_round
              case rel => exact ⟨k + 1, by omega, by omega, by go_num, HS⟩
              case measure => simp [intOf]; omega
            · replace HA : (lowB (byteAt s k) || digB (byteAt s k)) = false := Bool.eq_false_iff.2 HA
              have HS : Hid (varName s = false) := by rw [Hid, HV.out, allCh_no hlt (by simp only [varCh, hk0, if_false, HA])]; rfl
              go_wp2_with (first | (go_at_call 49; refine (l2Small_any _ _).mono ?_; rintro e w' ⟨rfl, rfl⟩; rw [HA]))
              go_ret
              exact ⟨ret_bool HS.out.symm, rfl⟩
          · obtain rfl : k = s.size := by omega
            have HS : Hid (varName s = true) := by rw [Hid, HV.out, HX.out]; simp [hin]
            go_wp2_with fail
            go_ret
            exact ⟨ret_bool HS.out.symm, rfl⟩
      · have HS : Hid (varName s = false) := by rw [Hid, HV.out, allCh_no h0 (by simp [varCh, upB, hu2])]; rfl
        go_enter Try.func34, Try.ntmps34
        go_wp2_with (first | (go_at_call 48; refine (l1In_any _ _ _ _).mono ?_; rintro e w' ⟨rfl, rfl⟩; rw [HI]))
        go_ret
        exact ⟨ret_bool HS.out.symm, rfl⟩
    · have HS : Hid (varName s = false) := by rw [Hid, HV.out, allCh_no h0 (by simp [varCh, upB, hu])]; rfl
      go_enter Try.func34, Try.ntmps34
      go_wp2_with (first | (go_at_call 48; refine (l1In_any _ _ _ _).mono ?_; rintro e w' ⟨rfl, rfl⟩; rw [HI]))
      go_ret
      exact ⟨ret_bool HS.out.symm, rfl⟩
  · have HI := inB_no (n := s.size) (lo := 1) (hi := 4) (by omega)
    have HS : Hid (varName s = false) := by rw [Hid, HV.out, Bool.eq_false_iff]; intro e; simp at e; omega
    go_enter Try.func34, Try.ntmps34
    go_wp2_with (first | (go_at_call 48; refine (l1In_any _ _ _ _).mono ?_; rintro e w' ⟨rfl, rfl⟩; rw [HI]))
    go_ret
    exact ⟨ret_bool HS.out.symm, rfl⟩

/-- the string is none of the reserved: each comparison fails -/
theorem notReserved {s : ByteArray} (h : hasStr reservedL s = false) (r : ByteArray) (hr : r ∈ reservedL) (l : List UInt8) (hl : r.data.toList = l) : (s.toList == l) = false := by
  subst hl
  rw [← ByteArray.toList_eq]
  refine toList_ne fun e => ?_
  subst e
  rw [(hasStr_iff _ _).2 hr] at h
  exact absurd h (by simp)

set_option maxHeartbeats 4000000 in
theorem l2Symbol_any (s : ByteArray) (hs : s.size ≤ maxLen) (w : World) : Calls Try.prog 47 #[.string s] w fun e w' => e = .returned (.bool (symName s)) ∧ w = w' := by
  unfold maxLen at hs
  have HV : Hid (symName s = (allCh symCh s s.size && decide (1 ≤ s.size) && decide (s.size ≤ 6) && !hasStr reservedL s)) := rfl
  by_cases hin : 1 ≤ s.size ∧ s.size ≤ 6
  · have HI := inB_yes (n := s.size) (lo := 1) (hi := 6) (by omega) (by omega)
    have h0 : 0 < s.size := by omega
    have h0' : (0 : Int) < s.size := by omega
    have hbe := byteAt_eq h0
    have hlt256 := byteAt_lt s 0
    by_cases hu : 97 ≤ byteAt s 0
    · by_cases hu2 : byteAt s 0 ≤ 122
      · have H0 : Hid (allCh symCh s 1 = true) := by rw [Hid, allCh_succ, allCh_zero]; simp [symCh, lowB, hu, hu2]
        have hq1 : ((byteAt s 0 : Int) < 97) = False := by simp; omega
        have hq2 : ¬ ((122 : Int) < (byteAt s 0 : Int)) := by omega
        by_cases hr : hasStr reservedL s = true
        · have HS : Hid (symName s = false) := by rw [Hid, HV.out, hr]; simp
          have hm := (hasStr_iff _ _).1 hr
          clear hr HV H0
          simp only [reservedL, List.mem_cons, List.not_mem_nil, or_false] at hm
          rcases hm with e | e | e | e | e | e | e | e
          all_goals
            have hl : s.toList = _ := (congrArg ByteArray.toList e).trans (ByteArray.toList_eq _)
            have HE := hid e
            clear e
            go_enter Try.func47, Try.ntmps47
            go_wp2_with (first | (go_at_call 48; refine (l1In_any _ _ _ _).mono ?_; rintro e w' ⟨rfl, rfl⟩; rw [HI]))
            go_ret
            exact ⟨ret_bool HS.out.symm, rfl⟩
        · replace hr : hasStr reservedL s = false := by simpa using hr
          have n0 : (s.toList == [116, 114, 117, 101]) = false := notReserved hr ⟨#[116, 114, 117, 101]⟩ (by simp [reservedL]) _ rfl
          have n1 : (s.toList == [102, 97, 108, 115, 101]) = false := notReserved hr ⟨#[102, 97, 108, 115, 101]⟩ (by simp [reservedL]) _ rfl
          have n2 : (s.toList == [116, 114, 117, 116, 104]) = false := notReserved hr ⟨#[116, 114, 117, 116, 104]⟩ (by simp [reservedL]) _ rfl
          have n3 : (s.toList == [98, 111, 116, 104]) = false := notReserved hr ⟨#[98, 111, 116, 104]⟩ (by simp [reservedL]) _ rfl
          have n4 : (s.toList == [101, 105, 116, 104, 101, 114]) = false := notReserved hr ⟨#[101, 105, 116, 104, 101, 114]⟩ (by simp [reservedL]) _ rfl
          have n5 : (s.toList == [105, 102]) = false := notReserved hr ⟨#[105, 102]⟩ (by simp [reservedL]) _ rfl
          have n6 : (s.toList == [97, 108, 108]) = false := notReserved hr ⟨#[97, 108, 108]⟩ (by simp [reservedL]) _ rfl
          have n7 : (s.toList == [115, 111, 109, 101]) = false := notReserved hr ⟨#[115, 111, 109, 101]⟩ (by simp [reservedL]) _ rfl
          have HR := hid hr
          clear hr
          go_enter Try.func47, Try.ntmps47
          go_wp2_with (first | (go_at_call 48; refine (l1In_any _ _ _ _).mono ?_; rintro e w' ⟨rfl, rfl⟩; rw [HI]))
          clear hq1 hq2 hbe
          go_loop [3] (fun i => ∃ k : Nat, 1 ≤ k ∧ k ≤ s.size ∧ i = .int .i64 k ∧ Hid (allCh symCh s k = true)) (fun i => s.size - (intOf i).toNat)
          case atStart => exact ⟨1, Nat.le_refl _, h0, rfl, H0⟩
          case round =>
            obtain ⟨k, hk1, hk, rfl, HX⟩ := hrel
            by_cases hlt : k < s.size
            · have hbe := byteAt_eq hlt
              have hstep := hid (allCh_succ symCh s k)
              have hlt0 : (k : Int) < s.size := by omega
              have hk0 : k ≠ 0 := by omega
              by_cases HA : (lowB (byteAt s k) || digB (byteAt s k)) = true
              · have HS : Hid (allCh symCh s (k + 1) = true) := by rw [Hid, hstep.out, HX.out]; simp only [symCh, hk0, if_false, HA]; rfl
                go_wp2_with (first | (go_at_call 49; refine (l2Small_any _ _).mono ?_; rintro e w' ⟨rfl, rfl⟩; rw [HA]))
                go_round
                case rel => exact ⟨k + 1, by omega, by omega, by go_num, HS⟩
                case measure => simp [intOf]; omega
              · replace HA : (lowB (byteAt s k) || digB (byteAt s k)) = false := Bool.eq_false_iff.2 HA
                by_cases hv : byteAt s k = 95
                · have HS : Hid (allCh symCh s (k + 1) = true) := by rw [Hid, hstep.out, HX.out]; simp only [symCh, hk0, if_false, hv]; rfl
                  have hq : ((byteAt s k : Int) != 95) = false := by rw [hv]; rfl
                  have hq' : ((byteAt s k : Int) == 95) = true := by rw [hv]; rfl
                  clear hv
                  go_wp2_with (first | (go_at_call 49; refine (l2Small_any _ _).mono ?_; rintro e w' ⟨rfl, rfl⟩; rw [HA]))
                  go_round
                  case rel => exact ⟨k + 1, by omega, by omega, by go_num, HS⟩
                  case measure => simp [intOf]; omega
                · have HS : Hid (symName s = false) := by rw [Hid, HV.out, allCh_no hlt (by simp only [symCh, hk0, if_false, HA]; simpa using hv)]; rfl
                  have hq : ((byteAt s k : Int) != 95) = true := by rw [bne_iff_ne]; omega
                  have hq' : ((byteAt s k : Int) == 95) = false := by rw [beq_eq_false_iff_ne]; omega
                  clear hv
                  go_wp2_with (first | (go_at_call 49; refine (l2Small_any _ _).mono ?_; rintro e w' ⟨rfl, rfl⟩; rw [HA]))
                  go_ret
                  exact ⟨ret_bool HS.out.symm, rfl⟩
            · obtain rfl : k = s.size := by omega
              have HS : Hid (symName s = true) := by rw [Hid, HV.out, HX.out, HR.out]; simp [hin]
              go_wp2_with fail
              go_ret
              exact ⟨ret_bool HS.out.symm, rfl⟩
      · have HS : Hid (symName s = false) := by rw [Hid, HV.out, allCh_no h0 (by simp [symCh, lowB, hu2])]; rfl
        go_enter Try.func47, Try.ntmps47
        go_wp2_with (first | (go_at_call 48; refine (l1In_any _ _ _ _).mono ?_; rintro e w' ⟨rfl, rfl⟩; rw [HI]))
        go_ret
        exact ⟨ret_bool HS.out.symm, rfl⟩
    · have HS : Hid (symName s = false) := by rw [Hid, HV.out, allCh_no h0 (by simp [symCh, lowB, hu])]; rfl
      go_enter Try.func47, Try.ntmps47
      go_wp2_with (first | (go_at_call 48; refine (l1In_any _ _ _ _).mono ?_; rintro e w' ⟨rfl, rfl⟩; rw [HI]))
      go_ret
      exact ⟨ret_bool HS.out.symm, rfl⟩
  · have HI := inB_no (n := s.size) (lo := 1) (hi := 6) (by omega)
    have HS : Hid (symName s = false) := by rw [Hid, HV.out, Bool.eq_false_iff]; intro e; simp at e; omega
    go_enter Try.func47, Try.ntmps47
    go_wp2_with (first | (go_at_call 48; refine (l1In_any _ _ _ _).mono ?_; rintro e w' ⟨rfl, rfl⟩; rw [HI]))
    go_ret
    exact ⟨ret_bool HS.out.symm, rfl⟩
end Go.Proofs.Ytglhbaigigdeeaa
/- The program and the reference tell valid terms: names and numbers of arguments. -/
namespace Go.Proofs.Ytglhbaigigdeeaa
set_option maxRecDepth 100000
open Go.RowKit

/-- f tells whether p holds of a term -/
def PredIs (f : FuncId) (p : Tm → Bool) (t : Tm) : Prop := ∀ ⦃S : Nat → Prop⦄ ⦃c0 c1 : Value⦄ ⦃w : World⦄, Tm.at S w c0 c1 t → t.bulk ≤ 1048576 → Calls Try.prog f #[.agg #[c0, c1]] w (Gives w (.bool (p t)))

theorem Tm.bulk_at {ts : List Tm} {k : Nat} (hk : k < ts.length) : ts[k].bulk ≤ Tm.bulks ts := Tm.bulk_mem (List.getElem_mem hk)

/-- function f has a body: a call of its value enters it -/
def Callable (f : FuncId) : Prop := ∀ (args : Array Value) (w : World), Sem.run Try.prog (callFunc f args) w = .ok (.enter f args) w

/-- r tells whether p holds of some term of the list -/
def FoundT (ts : List Tm) (p : Tm → Bool) (w : World) (e : Ending) (w' : World) : Prop := ∃ r : Int, e = .returned (.int .i64 r) ∧ ((0 ≤ r ∧ ts.any p = true) ∨ (r < 0 ∧ ts.any p = false)) ∧ Below w.heap.size w w'

set_option maxHeartbeats 400000 in
theorem indexFuncT (f : FuncId) (hcf : Callable f) (p : Tm → Bool) (ts : List Tm) (h : ∀ t ∈ ts, PredIs f p t) {S : Nat → Prop} {v : Value} {w : World} (hs : D.rd S w v (Tm.sd ts)) (hbk : Tm.bulks ts ≤ 1048576) :
    Calls Try.prog 80 #[v, .func (.func f) #[] #[]] w (FoundT ts p w) := by
  obtain ⟨a, cap, rfl, hlen, hcap⟩ := Tm.sd_form hs
  unfold big at hlen
  go_enter Try.func80, Try.ntmps80
  go_wp2_with fail
  go_loopw [8] (fun i wr => ∃ k : Nat, k ≤ ts.length ∧ i = .int .i64 k ∧ Hid ((ts.take k).any p = false) ∧ Below w.heap.size w wr) (fun i _ => ts.length - (intOf i).toNat)
  case atStart => exact ⟨0, Nat.zero_le _, rfl, by simp [Hid], Below.refl _ _⟩
  case round =>
    obtain ⟨k, hk, rfl, HX, hb⟩ := hrel
    have hbw := hb
    by_cases hlt : k < ts.length
    · have hne : ts ≠ [] := by intro e; subst e; simp at hlt
      obtain ⟨b, off, rfl, hS, hbl, hrr⟩ := Tm.sd_get hs hne
      obtain ⟨c0, c1, q0, q1, q2⟩ := hrr k hlt
      obtain ⟨rfl, -, x, xc, rfl⟩ := Tm.at_form q2
      replace q0 := (hbw.cell (p := ⟨b, off + k * 2, none⟩) hbl).trans q0
      replace q1 := (hbw.cell (p := ⟨b, off + k * 2 + 1, none⟩) hbl).trans q1
      replace q2 := Tm.at_keep (Keeps.all hbw) q2
      have hmem := h ts[k] (List.getElem_mem hlt)
      clear hs hrr
      have hbm : ts[k].bulk ≤ 1048576 := Nat.le_trans (Tm.bulk_at hlt) hbk
      unfold Callable at hcf
      go_wp2_with fail
      refine (hmem q2 hbm).mono ?_
      rintro e w2 ⟨_, rfl, hb2, rfl⟩
      by_cases hp : p ts[k] = true
      · have HF : Hid (ts.any p = true) := List.any_eq_true.2 ⟨_, List.getElem_mem hlt, hp⟩
        rw [hp]
        clear hp
        go_wp2_with fail
        go_ret
        exact ⟨k, rfl, .inl ⟨by omega, HF.out⟩, hb.trans (hb2.mono hb.size)⟩
      · have HF : Hid ((ts.take (k + 1)).any p = false) := by
          rw [Hid, List.take_succ_eq_append_getElem hlt, List.any_append, HX.out]; simpa using hp
        rw [Bool.eq_false_iff.2 hp]
        clear hp
        go_wp2_with fail
        go_roundw
        case rel => exact ⟨k + 1, by omega, by go_num, HF, hb.trans (hb2.mono hb.size)⟩
        case measure => simp [intOf]; omega
    · obtain rfl : k = ts.length := by omega
      have HF : Hid (ts.any p = false) := by have := HX.out; rwa [List.take_length] at this
      go_wp2_with fail
      go_ret
      exact ⟨-1, rfl, .inr ⟨by omega, HF.out⟩, hb⟩

set_option maxHeartbeats 400000 in
theorem containsFuncT (f : FuncId) (hcf : Callable f) (p : Tm → Bool) (ts : List Tm) (h : ∀ t ∈ ts, PredIs f p t) {S : Nat → Prop} {v : Value} {w : World} (hs : D.rd S w v (Tm.sd ts)) (hbk : Tm.bulks ts ≤ 1048576) :
    Calls Try.prog 66 #[v, .func (.func f) #[] #[]] w (Gives w (.bool (ts.any p))) := by
  go_enter Try.func66, Try.ntmps66
  go_wp2_with fail
  refine (indexFuncT f hcf p ts h hs hbk).mono ?_
  rintro e w' ⟨r, rfl, hr, hb⟩
  rcases hr with ⟨h0, h1⟩ | ⟨h0, h1⟩
  · have H := hid h1
    clear h1
    go_wp2_with fail
    go_ret
    exact Gives.mk (ret_bool H.out.symm) hb
  · have H := hid h1
    clear h1
    go_wp2_with fail
    go_ret
    exact Gives.mk (ret_bool (by rw [H.out]; simp; omega)) hb

set_option maxHeartbeats 400000 in
theorem hasNames1_of {t : Tm} (h : PredIs 52 Tm.names t) : PredIs 67 (fun t => !t.names) t := by
  intro S c0 c1 w hT hbk
  obtain ⟨rfl, hn, a, cap, rfl⟩ := Tm.at_form hT
  have hW : Below w.heap.size w (w.alloc (.cells #[.string t.name, .slice a t.args.length cap] 33)) := (Below.refl _ _).alloc (Nat.le_refl _) _
  have bT : Box (w.alloc (.cells #[.string t.name, .slice a t.args.length cap] 33)) w.heap.size [.string t.name, .slice a t.args.length cap] := Box.new w _ _
  replace hT := Tm.at_keep (Keeps.all hW) hT
  go_enter Try.func67, Try.ntmps67
  go_wp2_with fail
  generalize (w.alloc (.cells #[.string t.name, .slice a t.args.length cap] 33)) = w0 at *
  refine (h hT hbk).mono ?_
  rintro e w1 ⟨_, rfl, hb, rfl⟩
  replace hW := hW.trans (hb.mono hW.size)
  replace bT := bT.keep hb
  replace hT := Tm.at_keep (Keeps.all hb) hT
  clear hb
  have eT0 := bT.c0
  have eT1 := bT.c1
  have lT := bT.lt
  go_wp2_with fail
  clear eT0 eT1 lT
  go_ret
  exact Gives.mk rfl hW

theorem callable1 : Callable 67 := fun _ _ => by kernel_rfl

theorem Tm.any_names (ts : List Tm) : ts.any (fun t => !t.names) = !Tm.namesAll ts := by
  rw [Bool.eq_iff_iff]
  simp only [List.any_eq_true, Bool.not_eq_true', Bool.eq_false_iff, Ne, Tm.namesAll_iff]
  constructor
  · rintro ⟨t, ht, hn⟩ h; exact hn (h t ht)
  · intro h
    refine Classical.byContradiction fun hc => h fun t ht => Classical.byContradiction fun hn => hc ⟨t, ht, hn⟩

set_option maxHeartbeats 1000000 in
theorem hasNames_of (n : ByteArray) (ts : List Tm) (h : ∀ t ∈ ts, PredIs 52 Tm.names t) : PredIs 52 Tm.names (.node n ts) := by
  intro S c0 c1 w hT hbk
  generalize ht : Tm.node n ts = t at *
  obtain ⟨rfl, hn, a, cap, rfl⟩ := Tm.at_form hT
  have hW : Below w.heap.size w (w.alloc (.cells #[.string t.name, .slice a t.args.length cap] 33)) := (Below.refl _ _).alloc (Nat.le_refl _) _
  have bT : Box (w.alloc (.cells #[.string t.name, .slice a t.args.length cap] 33)) w.heap.size [.string t.name, .slice a t.args.length cap] := Box.new w _ _
  replace hT := Tm.at_keep (Keeps.all hW) hT
  go_enter Try.func52, Try.ntmps52
  go_wp2_with fail
  generalize (w.alloc (.cells #[.string t.name, .slice a t.args.length cap] 33)) = w0 at *
  subst ht
  simp only [Tm.name, Tm.args] at *
  by_cases hv : varName n = true
  · have HN : Hid (Tm.names (.node n ts) = ts.isEmpty) := by rw [Hid, Tm.names, if_pos hv]
    refine (isVariable_any n hn _).mono ?_
    rintro e w' ⟨rfl, rfl⟩
    rw [hv]
    have eT0 := bT.c0
    have eT1 := bT.c1
    go_wp2_with fail
    go_ret
    exact Gives.mk (ret_bool (by rw [HN.out]; cases ts <;> simp; omega)) hW
  · replace hv : varName n = false := by simpa using hv
    have HN : Hid (Tm.names (.node n ts) = (symName n && decide (ts.length ≤ 4) && Tm.namesAll ts)) := by rw [Hid, Tm.names, hv]; rfl
    refine (isVariable_any n hn _).mono ?_
    rintro e w' ⟨rfl, rfl⟩
    rw [hv]
    clear hv
    have eT0 := bT.c0
    have eT1 := bT.c1
    go_wp2_with fail
    clear eT0 eT1
    refine (isSymbol_any n hn _).mono ?_
    rintro e w1 ⟨_, rfl, hb, rfl⟩
    replace hW := hW.trans (hb.mono hW.size)
    replace bT := bT.keep hb
    replace hT := Tm.at_keep (Keeps.all hb) hT
    clear hb
    have eT0 := bT.c0
    have eT1 := bT.c1
    by_cases hsy : symName n = true
    · by_cases h4 : ts.length ≤ 4
      · have HM : Hid (Tm.names (.node n ts) = Tm.namesAll ts) := by rw [Hid, HN.out, hsy]; simp [h4]
        have h4' : ((ts.length : Int) ≤ 4) := by omega
        rw [hsy]
        clear hsy
        go_wp2_with fail
        clear eT0 eT1
        refine (containsFuncT 67 callable1 (fun t => !t.names) ts (fun t ht => hasNames1_of (h t ht)) hT.2 (by rw [Tm.bulk] at hbk; omega)).mono ?_
        rintro e w2 ⟨_, rfl, hb, rfl⟩
        rw [Tm.any_names]
        go_wp2_with fail
        go_ret
        exact Gives.mk (ret_bool (by rw [HM.out])) (hW.trans (hb.mono hW.size))
      · have HM : Hid (Tm.names (.node n ts) = false) := by rw [Hid, HN.out]; simp [h4]
        have h4' : ¬ ((ts.length : Int) ≤ 4) := by omega
        rw [hsy]
        clear hsy
        go_wp2_with fail
        go_ret
        exact Gives.mk (ret_bool HM.out.symm) hW
    · replace hsy : symName n = false := by simpa using hsy
      have HM : Hid (Tm.names (.node n ts) = false) := by rw [Hid, HN.out, hsy]; rfl
      rw [hsy]
      clear hsy
      go_wp2_with fail
      go_ret
      exact Gives.mk (ret_bool HM.out.symm) hW
theorem hasNames_any (t : Tm) : PredIs 52 Tm.names t := Tm.ind (P := fun t => PredIs 52 Tm.names t) (fun n ts h => hasNames_of n ts h) t

set_option maxHeartbeats 1000000 in
theorem l2Nodes_of (n : ByteArray) (ts : List Tm) (h : ∀ t ∈ ts, PredIs 46 Tm.names t) : PredIs 46 Tm.names (.node n ts) := by
  intro S c0 c1 w hr hbk
  obtain ⟨rfl, hn, a, cap, rfl⟩ := Tm.at_form hr
  have hs := hr.2
  simp only [Tm.name, Tm.args] at hs hn ⊢
  clear hr
  obtain ⟨a', cap', he, hlen, hcap⟩ := Tm.sd_form hs
  injection he with e0 e1 e2
  subst e0 e2
  clear e1
  unfold big at hlen
  by_cases hv : varName n = true
  · have HN : Hid (Tm.names (.node n ts) = ts.isEmpty) := by rw [Hid, Tm.names, if_pos hv]
    go_enter Try.func46, Try.ntmps46
    go_wp2_with (first | (go_at_call 34; refine (l2Var_any _ hn _).mono ?_; rintro e w' ⟨rfl, rfl⟩; rw [hv]))
    go_ret
    exact Gives.mk (ret_bool (by rw [HN.out]; cases ts <;> simp; omega)) ((Below.refl _ _).alloc (Nat.le_refl _) _)
  · replace hv : varName n = false := by simpa using hv
    have HN : Hid (Tm.names (.node n ts) = (symName n && decide (ts.length ≤ 4) && Tm.namesAll ts)) := by rw [Hid, Tm.names, hv]; rfl
    by_cases hsy : symName n = true
    · by_cases h4 : ts.length ≤ 4
      · have HM : Hid (Tm.names (.node n ts) = Tm.namesAll ts) := by rw [Hid, HN.out, hsy]; simp [h4]
        have h4' : ¬ ((4 : Int) < (ts.length : Int)) := by omega
        go_enter Try.func46, Try.ntmps46
        go_wp2_with (first | (go_at_call 34; refine (l2Var_any _ hn _).mono ?_; rintro e w' ⟨rfl, rfl⟩; rw [hv]) | (go_at_call 47; refine (l2Symbol_any _ hn _).mono ?_; rintro e w' ⟨rfl, rfl⟩; rw [hsy]))
        clear h4'
        go_loopw [3] (fun i wr => ∃ (k : Nat), k ≤ ts.length ∧ i = .int .i64 k ∧ Hid (Tm.namesAll (ts.take k) = true) ∧ Below (w.heap.size + 1) (w.alloc (.cells #[.string n, .slice a ts.length cap] 33)) wr) (fun i _ => ts.length - (intOf i).toNat)
        case atStart => exact ⟨0, Nat.zero_le _, rfl, by simp [Hid, Tm.namesAll], Below.refl _ _⟩
        case round =>
          obtain ⟨k, hk, rfl, HX, hb⟩ := hrel
          have hbw : Below w.heap.size w wr := ((Below.refl _ _).alloc (Nat.le_refl _) _).trans (hb.mono (by omega))
          have hz := hb.size
          simp only [World.size_alloc] at hz
          have hz0 : w.heap.size < wr.heap.size := by omega
          have e10 : wr.cell? ⟨w.heap.size, 0, none⟩ = some (.string n) := (hb.cell (by simp)).trans (box1 _ _ _ _)
          have e11 : wr.cell? ⟨w.heap.size, 1, none⟩ = some (.slice a ts.length cap) := (hb.cell (by simp)).trans (box1 _ _ _ _)
          by_cases hlt : k < ts.length
          · have hne : ts ≠ [] := by intro e; subst e; simp at hlt
            obtain ⟨b, off, rfl, hS, hbl, hrr⟩ := Tm.sd_get hs hne
            obtain ⟨c0, c1, q0, q1, q2⟩ := hrr k hlt
            obtain ⟨rfl, -, x, xc, rfl⟩ := Tm.at_form q2
            replace q0 := (hbw.cell (p := ⟨b, off + k * 2, none⟩) hbl).trans q0
            replace q1 := (hbw.cell (p := ⟨b, off + k * 2 + 1, none⟩) hbl).trans q1
            replace q2 := Tm.at_keep (Keeps.all hbw) q2
            have hmem := h ts[k] (List.getElem_mem hlt)
            clear hs hrr
            have hst := hid (Tm.namesAll_take ts k hlt)
            have hno := hid (fun hn => Tm.namesAll_no (List.getElem_mem hlt) hn : Tm.names ts[k] = false → Tm.namesAll ts = false)
            have hbm : ts[k].bulk ≤ 1048576 := Nat.le_trans (Tm.bulk_at hlt) (by rw [Tm.bulk] at hbk; omega)
            go_wp2_with fail
            refine (hmem q2 hbm).mono ?_
            rintro e w2 ⟨_, rfl, hb3, rfl⟩
            by_cases hp : Tm.names ts[k] = true
            · have HS : Hid (Tm.namesAll (ts.take (k + 1)) = true) := by rw [Hid, hst.out, HX.out, hp]; rfl
              rw [hp]
              clear hp
              go_wp2_with fail
              go_roundw
              case rel => exact ⟨k + 1, by omega, by go_num, HS, hb.trans (hb3.mono hz)⟩
              case measure => simp [intOf]; omega
            · replace hp : Tm.names ts[k] = false := by simpa using hp
              have HS := hid (hno.out hp)
              rw [hp]
              clear hp
              go_wp2_with fail
              go_ret
              exact Gives.mk (ret_bool (by rw [HM.out, HS.out])) (hbw.trans (hb3.mono hbw.size))
          · obtain rfl : k = ts.length := by omega
            have HS : Hid (Tm.names (.node n ts) = true) := by rw [Hid, HM.out]; have := HX.out; rwa [List.take_length] at this
            go_wp2_with fail
            go_ret
            exact Gives.mk (ret_bool HS.out.symm) hbw
      · have HM : Hid (Tm.names (.node n ts) = false) := by rw [Hid, HN.out]; simp [h4]
        have h4' : (4 : Int) < (ts.length : Int) := by omega
        go_enter Try.func46, Try.ntmps46
        go_wp2_with (first | (go_at_call 34; refine (l2Var_any _ hn _).mono ?_; rintro e w' ⟨rfl, rfl⟩; rw [hv]) | (go_at_call 47; refine (l2Symbol_any _ hn _).mono ?_; rintro e w' ⟨rfl, rfl⟩; rw [hsy]))
        go_ret
        exact Gives.mk (ret_bool HM.out.symm) ((Below.refl _ _).alloc (Nat.le_refl _) _)
    · replace hsy : symName n = false := by simpa using hsy
      have HM : Hid (Tm.names (.node n ts) = false) := by rw [Hid, HN.out, hsy]; rfl
      go_enter Try.func46, Try.ntmps46
      go_wp2_with (first | (go_at_call 34; refine (l2Var_any _ hn _).mono ?_; rintro e w' ⟨rfl, rfl⟩; rw [hv]) | (go_at_call 47; refine (l2Symbol_any _ hn _).mono ?_; rintro e w' ⟨rfl, rfl⟩; rw [hsy]))
      go_ret
      exact Gives.mk (ret_bool HM.out.symm) ((Below.refl _ _).alloc (Nat.le_refl _) _)
theorem l2Nodes_any (t : Tm) : PredIs 46 Tm.names t := Tm.ind (P := fun t => PredIs 46 Tm.names t) (fun n ts h => l2Nodes_of n ts h) t
end Go.Proofs.Ytglhbaigigdeeaa
