/- The program and the reference tell names of variables and of symbols. -/
import Derived.Test.YtooocakkjdhfiaaDoorRows
import Derived.Test.YtooocakkjdhfiaaDoorCh
import Derived.Test.YtooocakkjdhfiaaDoorBr
import Derived.Test.YtooocakkjdhfiaaDoorReg
import Derived.Test.YtooocakkjdhfiaaDoorWi
import Derived.Test.YtooocakkjdhfiaaDoorSe
import Derived.WalkSpells
import Derived.WalkLawsBesides
namespace Go.Proofs.YtooocakkjdhfiaaDoor
set_option maxRecDepth 100000
open Go.RowKit

theorem isLower_any (n : Nat) (w : World) : Calls Tryd.prog 48 #[.int .u8 n] w fun e w' => e = .returned (.bool (lowB n)) ∧ w = w' := by
  have H : Hid (lowB n = (decide (97 ≤ n) && decide (n ≤ 122))) := rfl
  by_cases h1 : 97 ≤ n
  all_goals
    go_enter Tryd.func48, Tryd.ntmps48
    go_wp2
    go_ret
    exact ⟨ret_bool (by rw [H.out, Bool.eq_iff_iff]; simp; omega), rfl⟩
theorem isDigit_any (n : Nat) (w : World) : Calls Tryd.prog 49 #[.int .u8 n] w fun e w' => e = .returned (.bool (digB n)) ∧ w = w' := by
  have H : Hid (digB n = (decide (48 ≤ n) && decide (n ≤ 57))) := rfl
  by_cases h1 : 48 ≤ n
  all_goals
    go_enter Tryd.func49, Tryd.ntmps49
    go_wp2
    go_ret
    exact ⟨ret_bool (by rw [H.out, Bool.eq_iff_iff]; simp; omega), rfl⟩
theorem isUpper_any (n : Nat) (w : World) : Calls Tryd.prog 44 #[.int .u8 n] w fun e w' => e = .returned (.bool (upB n)) ∧ w = w' := by
  have H : Hid (upB n = (decide (65 ≤ n) && decide (n ≤ 90))) := rfl
  by_cases h1 : 65 ≤ n
  all_goals
    go_enter Tryd.func44, Tryd.ntmps44
    go_wp2
    go_ret
    exact ⟨ret_bool (by rw [H.out, Bool.eq_iff_iff]; simp; omega), rfl⟩
theorem l2Small_any (n : Nat) (w : World) : Calls Tryd.prog 37 #[.int .u8 n] w fun e w' => e = .returned (.bool (lowB n || digB n)) ∧ w = w' := by
  have H : Hid ((lowB n || digB n) = ((decide (97 ≤ n) && decide (n ≤ 122)) || (decide (48 ≤ n) && decide (n ≤ 57)))) := rfl
  by_cases h1 : 97 ≤ n
  · by_cases h2 : n ≤ 122
    all_goals
      by_cases h3 : 48 ≤ n
      all_goals
        go_enter Tryd.func37, Tryd.ntmps37
        go_wp2
        all_goals
          go_ret
          exact ⟨ret_bool (by rw [H.out, Bool.eq_iff_iff]; simp; omega), rfl⟩
  · by_cases h3 : 48 ≤ n
    all_goals
      go_enter Tryd.func37, Tryd.ntmps37
      go_wp2
      go_ret
      exact ⟨ret_bool (by rw [H.out, Bool.eq_iff_iff]; simp; omega), rfl⟩
set_option maxHeartbeats 1000000 in
theorem isVariable_any (s : ByteArray) (hs : s.size ≤ maxLen) (w : World) : Calls Tryd.prog 40 #[.string s] w fun e w' => e = .returned (.bool (varName s)) ∧ w = w' := by
  unfold maxLen at hs
  have HV : Hid (varName s = (allCh varCh s s.size && decide (1 ≤ s.size) && decide (s.size ≤ 4))) := rfl
  go_enter Tryd.func40, Tryd.ntmps40
  go_wp2_with fail
  go_loop [6] (fun i => ∃ k : Nat, k ≤ s.size ∧ i = .int .i64 k ∧ Hid (allCh varCh s k = true)) (fun i => s.size - (intOf i).toNat)
  case atStart => exact ⟨0, Nat.zero_le _, rfl, allCh_zero _ _⟩
  case round =>
    obtain ⟨k, hk, rfl, HX⟩ := hrel
    by_cases hlt : k < s.size
    · have hbe := byteAt_eq hlt
      have hstep := hid (allCh_succ varCh s k)
      have hlt0 : (k : Int) < s.size := by omega
      by_cases h0 : k = 0
      · subst h0
        by_cases HU : upB (byteAt s 0) = true
        · have HS : Hid (allCh varCh s (0 + 1) = true) := by rw [Hid, hstep.out, HX.out]; simp [varCh, HU]
          go_wp2_with (first | (go_at_call 44; refine (isUpper_any _ _).mono ?_; rintro e w' ⟨rfl, rfl⟩; rw [HU]))
          go_round
          case rel => exact ⟨0 + 1, by omega, by go_num, HS⟩
          case measure => simp [intOf]; omega
        · replace HU : upB (byteAt s 0) = false := by simpa using HU
          have HS : Hid (varName s = false) := by rw [Hid, HV.out, allCh_no hlt (by simp [varCh, HU])]; rfl
          go_wp2_with (first | (go_at_call 44; refine (isUpper_any _ _).mono ?_; rintro e w' ⟨rfl, rfl⟩; rw [HU]))
          go_ret
          exact ⟨ret_bool HS.out.symm, rfl⟩
      · have hk0 : ((k : Int) == 0) = false := by rw [beq_eq_false_iff_ne]; omega
        have hk1 : 0 < (k : Int) := by omega
        by_cases HL : lowB (byteAt s k) = true
        · have HS : Hid (allCh varCh s (k + 1) = true) := by rw [Hid, hstep.out, HX.out]; simp [varCh, HL, h0]
          go_wp2_with (first | (go_at_call 48; refine (isLower_any _ _).mono ?_; rintro e w' ⟨rfl, rfl⟩; rw [HL]))
          go_round
          case rel => exact ⟨k + 1, by omega, by go_num, HS⟩
          case measure => simp [intOf]; omega
        · replace HL : lowB (byteAt s k) = false := by simpa using HL
          by_cases HD : digB (byteAt s k) = true
          · have HS : Hid (allCh varCh s (k + 1) = true) := by rw [Hid, hstep.out, HX.out]; simp [varCh, HD, h0]
            go_wp2_with (first | (go_at_call 48; refine (isLower_any _ _).mono ?_; rintro e w' ⟨rfl, rfl⟩; rw [HL]) | (go_at_call 49; refine (isDigit_any _ _).mono ?_; rintro e w' ⟨rfl, rfl⟩; rw [HD]))
            go_round
            case rel => exact ⟨k + 1, by omega, by go_num, HS⟩
            case measure => simp [intOf]; omega
          · replace HD : digB (byteAt s k) = false := by simpa using HD
            have HS : Hid (varName s = false) := by rw [Hid, HV.out, allCh_no hlt (by simp [varCh, h0, HL, HD])]; rfl
            go_wp2_with (first | (go_at_call 48; refine (isLower_any _ _).mono ?_; rintro e w' ⟨rfl, rfl⟩; rw [HL]) | (go_at_call 49; refine (isDigit_any _ _).mono ?_; rintro e w' ⟨rfl, rfl⟩; rw [HD]))
            go_ret
            exact ⟨ret_bool HS.out.symm, rfl⟩
    · obtain rfl : k = s.size := by omega
      have HS : Hid (varName s = inB s.size 1 4) := by rw [Hid, HV.out, HX.out, Bool.eq_iff_iff]; simp [inB]; omega
      go_wp2_with (first | (go_at_call 50; refine (within_any _ _ _ _).mono ?_; rintro e w' ⟨rfl, rfl⟩))
      go_ret
      exact ⟨ret_bool HS.out.symm, rfl⟩

/-- r tells whether s is in the list -/
def Found (ss : List ByteArray) (s : ByteArray) (w : World) (e : Ending) (w' : World) : Prop := ∃ r : Int, e = .returned (.int .i64 r) ∧ ((0 ≤ r ∧ hasStr ss s = true) ∨ (r < 0 ∧ hasStr ss s = false)) ∧ w = w'

set_option maxHeartbeats 400000 in
theorem indexStr_any {S : Nat → Prop} {v : Value} {ss : List ByteArray} (s : ByteArray) {w : World} (h : D.rd S w v (slOf strE ss)) : Calls Tryd.prog 55 #[v, .string s] w (Found ss s w) := by
  obtain ⟨a, cap, rfl, hlen, hcap⟩ := slOf_form h
  unfold big at hlen
  go_enter Tryd.func55, Tryd.ntmps55
  go_wp2_with fail
  go_loop [8] (fun i => ∃ k : Nat, k ≤ ss.length ∧ i = .int .i64 k ∧ Hid (s ∉ ss.take k)) (fun i => ss.length - (intOf i).toNat)
  case atStart => exact ⟨0, Nat.zero_le _, rfl, by simp [Hid]⟩
  case round =>
    obtain ⟨k, hk, rfl, HX⟩ := hrel
    by_cases hlt : k < ss.length
    · have hne : ss ≠ [] := by intro e; subst e; simp at hlt
      obtain ⟨b, off, rfl, hS, hbl, hrr⟩ := strs_get h hne
      obtain ⟨q0, q1⟩ := hrr k hlt
      clear h hrr
      by_cases he : s = ss[k]
      · have hq : (s.toList == ss[k].toList) = true := by rw [toList_beq]; simpa using he
        have HF : Hid (hasStr ss s = true) := (hasStr_iff _ _).2 (he ▸ List.getElem_mem hlt)
        clear he
        go_wp2_with fail
        go_ret
        exact ⟨k, rfl, .inl ⟨by omega, HF.out⟩, rfl⟩
      · have hq : (s.toList == ss[k].toList) = false := toList_ne he
        have HF : Hid (s ∉ ss.take (k + 1)) := by
          rw [Hid, List.take_succ_eq_append_getElem hlt, List.mem_append]
          rintro (q | q)
          · exact HX.out q
          · exact he (by simpa using q)
        clear he
        go_wp2_with fail
        go_round
        case rel => exact ⟨k + 1, by omega, by go_num, HF⟩
        case measure => simp [intOf]; omega
    · obtain rfl : k = ss.length := by omega
      have HF : Hid (hasStr ss s = false) := by
        rw [Hid, Bool.eq_false_iff, Ne, hasStr_iff]
        have := HX.out
        rwa [List.take_length] at this
      go_wp2_with fail
      go_ret
      exact ⟨-1, rfl, .inr ⟨by omega, HF.out⟩, rfl⟩

set_option maxHeartbeats 400000 in
theorem containsStr_any {S : Nat → Prop} {v : Value} {ss : List ByteArray} (s : ByteArray) {w : World} (h : D.rd S w v (slOf strE ss)) : Calls Tryd.prog 51 #[v, .string s] w fun e w' => e = .returned (.bool (hasStr ss s)) ∧ w = w' := by
  go_enter Tryd.func51, Tryd.ntmps51
  go_wp2_with fail
  refine (indexStr_any s h).mono ?_
  rintro e w' ⟨r, rfl, hr, rfl⟩
  rcases hr with ⟨h0, h1⟩ | ⟨h0, h1⟩
  · have H := hid h1
    clear h1
    go_wp2_with fail
    go_ret
    exact ⟨ret_bool H.out.symm, rfl⟩
  · have H := hid h1
    clear h1
    go_wp2_with fail
    go_ret
    exact ⟨ret_bool (by rw [H.out]; simp; omega), rfl⟩

theorem reserved_any (w : World) : Calls Tryd.prog 52 #[] w (Yields w fun v w' => D.rd (fun _ => True) w' v (slOf strE reservedL)) := by
  go_enter Tryd.func52, Tryd.ntmps52
  go_wp2_with fail
  go_ret
  refine ⟨_, rfl, (Below.refl _ _).alloc (Nat.le_refl _) _, ?_⟩
  refine slOf_strs (ss := reservedL) trivial (by simp) (by decide) (fun i hi => ?_) (by decide)
  rw [box1]
  match i, hi with
  | 0, _ => exact ⟨rfl, by simp [reservedL, ByteArray.size, maxLen]⟩
  | 1, _ => exact ⟨rfl, by simp [reservedL, ByteArray.size, maxLen]⟩
  | 2, _ => exact ⟨rfl, by simp [reservedL, ByteArray.size, maxLen]⟩
  | 3, _ => exact ⟨rfl, by simp [reservedL, ByteArray.size, maxLen]⟩
  | 4, _ => exact ⟨rfl, by simp [reservedL, ByteArray.size, maxLen]⟩
  | 5, _ => exact ⟨rfl, by simp [reservedL, ByteArray.size, maxLen]⟩
  | 6, _ => exact ⟨rfl, by simp [reservedL, ByteArray.size, maxLen]⟩
  | 7, _ => exact ⟨rfl, by simp [reservedL, ByteArray.size, maxLen]⟩

set_option maxHeartbeats 2000000 in
theorem isSymbol_any (s : ByteArray) (hs : s.size ≤ maxLen) (w : World) : Calls Tryd.prog 41 #[.string s] w (Gives w (.bool (symName s))) := by
  unfold maxLen at hs
  have HV : Hid (symName s = (allCh symCh s s.size && decide (1 ≤ s.size) && decide (s.size ≤ 6) && !hasStr reservedL s)) := rfl
  go_enter Tryd.func41, Tryd.ntmps41
  go_wp2_with fail
  go_loop [6] (fun i => ∃ k : Nat, k ≤ s.size ∧ i = .int .i64 k ∧ Hid (allCh symCh s k = true)) (fun i => s.size - (intOf i).toNat)
  case atStart => exact ⟨0, Nat.zero_le _, rfl, allCh_zero _ _⟩
  case round =>
    obtain ⟨k, hk, rfl, HX⟩ := hrel
    by_cases hlt : k < s.size
    · have hbe := byteAt_eq hlt
      have hstep := hid (allCh_succ symCh s k)
      have hlt0 : (k : Int) < s.size := by omega
      by_cases h0 : k = 0
      · subst h0
        by_cases HL : lowB (byteAt s 0) = true
        · have HS : Hid (allCh symCh s (0 + 1) = true) := by rw [Hid, hstep.out, HX.out]; simp [symCh, HL]
          go_wp2_with (first | (go_at_call 48; refine (isLower_any _ _).mono ?_; rintro e w' ⟨rfl, rfl⟩; rw [HL]))
          go_round
          case rel => exact ⟨0 + 1, by omega, by go_num, HS⟩
          case measure => simp [intOf]; omega
        · replace HL : lowB (byteAt s 0) = false := by simpa using HL
          have HS : Hid (symName s = false) := by rw [Hid, HV.out, allCh_no hlt (by simp [symCh, HL])]; rfl
          go_wp2_with (first | (go_at_call 48; refine (isLower_any _ _).mono ?_; rintro e w' ⟨rfl, rfl⟩; rw [HL]))
          go_ret
          exact Gives.mk (ret_bool HS.out.symm) (Below.refl _ _)
      · have hk0 : ((k : Int) == 0) = false := by rw [beq_eq_false_iff_ne]; omega
        by_cases HL : lowB (byteAt s k) = true
        · have HS : Hid (allCh symCh s (k + 1) = true) := by rw [Hid, hstep.out, HX.out]; simp [symCh, HL, h0]
          go_wp2_with (first | (go_at_call 48; refine (isLower_any _ _).mono ?_; rintro e w' ⟨rfl, rfl⟩; rw [HL]))
          go_round
          case rel => exact ⟨k + 1, by omega, by go_num, HS⟩
          case measure => simp [intOf]; omega
        · replace HL : lowB (byteAt s k) = false := by simpa using HL
          by_cases HD : digB (byteAt s k) = true
          · have HS : Hid (allCh symCh s (k + 1) = true) := by rw [Hid, hstep.out, HX.out]; simp [symCh, HD, h0]
            go_wp2_with (first | (go_at_call 48; refine (isLower_any _ _).mono ?_; rintro e w' ⟨rfl, rfl⟩; rw [HL]) | (go_at_call 49; refine (isDigit_any _ _).mono ?_; rintro e w' ⟨rfl, rfl⟩; rw [HD]))
            go_round
            case rel => exact ⟨k + 1, by omega, by go_num, HS⟩
            case measure => simp [intOf]; omega
          · replace HD : digB (byteAt s k) = false := by simpa using HD
            by_cases hu : byteAt s k = 95
            · have HS : Hid (allCh symCh s (k + 1) = true) := by rw [Hid, hstep.out, HX.out]; simp [symCh, hu, h0]
              have hq : ((byteAt s k : Int) != 95) = false := by rw [hu]; rfl
              have hq' : ((byteAt s k : Int) == 95) = true := by rw [hu]; rfl
              clear hu
              go_wp2_with (first | (go_at_call 48; refine (isLower_any _ _).mono ?_; rintro e w' ⟨rfl, rfl⟩; rw [HL]) | (go_at_call 49; refine (isDigit_any _ _).mono ?_; rintro e w' ⟨rfl, rfl⟩; rw [HD]))
              go_round
              case rel => exact ⟨k + 1, by omega, by go_num, HS⟩
              case measure => simp [intOf]; omega
            · have HS : Hid (symName s = false) := by rw [Hid, HV.out, allCh_no hlt (by simp [symCh, h0, HL, HD, hu])]; rfl
              have hq : ((byteAt s k : Int) != 95) = true := by rw [bne_iff_ne]; omega
              have hq' : ((byteAt s k : Int) == 95) = false := by rw [beq_eq_false_iff_ne]; omega
              clear hu
              go_wp2_with (first | (go_at_call 48; refine (isLower_any _ _).mono ?_; rintro e w' ⟨rfl, rfl⟩; rw [HL]) | (go_at_call 49; refine (isDigit_any _ _).mono ?_; rintro e w' ⟨rfl, rfl⟩; rw [HD]))
              go_ret
              exact Gives.mk (ret_bool HS.out.symm) (Below.refl _ _)
    · obtain rfl : k = s.size := by omega
      by_cases hin : 1 ≤ s.size ∧ s.size ≤ 6
      · have HI := inB_yes (n := s.size) (lo := 1) (hi := 6) (by omega) (by omega)
        have HS : Hid (symName s = !hasStr reservedL s) := by rw [Hid, HV.out, HX.out]; simp [hin]
        go_wp2_with (first | (go_at_call 50; refine (within_any _ _ _ _).mono ?_; rintro e w' ⟨rfl, rfl⟩; rw [HI]))
        refine (reserved_any _).mono ?_
        rintro e w1 ⟨v, rfl, hb, hr⟩
        go_wp2_with fail
        refine (containsStr_any s hr).mono ?_
        rintro e w' ⟨rfl, rfl⟩
        go_wp2_with fail
        go_ret
        exact Gives.mk (ret_bool HS.out.symm) hb
      · have HI := inB_no (n := s.size) (lo := 1) (hi := 6) (by omega)
        have HS : Hid (symName s = false) := by rw [Hid, HV.out, Bool.eq_false_iff]; intro e; simp at e; omega
        go_wp2_with (first | (go_at_call 50; refine (within_any _ _ _ _).mono ?_; rintro e w' ⟨rfl, rfl⟩; rw [HI]))
        go_ret
        exact Gives.mk (ret_bool HS.out.symm) (Below.refl _ _)
end Go.Proofs.YtooocakkjdhfiaaDoor
