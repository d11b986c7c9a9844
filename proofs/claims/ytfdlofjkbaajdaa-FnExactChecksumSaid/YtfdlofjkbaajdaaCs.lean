/- The checksum of a string. -/
import Derived.Test.YtfdlofjkbaajdaaRows
import Derived.Test.YtfdlofjkbaajdaaCh
import Derived.Test.YtfdlofjkbaajdaaReg
import Derived.WalkSpells
import Derived.WalkLawsBesides
namespace Go.Proofs.Ytfdlofjkbaajdaa
set_option maxRecDepth 100000
open Go.RowKit

/-- the checksum of the first k bytes -/
def sumTo (s : ByteArray) : Nat → Nat
  | 0 => 7
  | k + 1 => (41 * sumTo s k + byteAt s k + 1) % 999979
theorem sumTo_lt (s : ByteArray) (k : Nat) : sumTo s k ≤ 999978 := by
  cases k with
  | zero => show 7 ≤ 999978; omega
  | succ k => rw [sumTo]; omega
theorem sumTo_succ (s : ByteArray) (k : Nat) : ((sumTo s (k + 1) : Nat) : Int) = (41 * (sumTo s k : Int) + (byteAt s k : Int) + 1) % 999979 := by rw [sumTo]; omega

set_option maxHeartbeats 1000000 in
theorem checksum_any (s : ByteArray) (hs : s.size ≤ maxLen) (w : World) : Calls Try.prog 19 #[.string s] w fun e w' => e = .returned (.int .i64 (sumTo s s.size)) ∧ w = w' := by
  unfold maxLen at hs
  go_enter Try.func19, Try.ntmps19
  go_wp2_with fail
  go_loop [3, 7] (fun h i => ∃ k x : Nat, k ≤ s.size ∧ i = .int .i64 k ∧ h = .int .i64 x ∧ x ≤ 999978 ∧ Hid (x = sumTo s k)) (fun _ i => s.size - (intOf i).toNat)
  case atStart => exact ⟨0, 7, Nat.zero_le _, rfl, rfl, by omega, rfl⟩
  case round =>
    obtain ⟨k, x, hk, rfl, rfl, hx, HX⟩ := hrel
    by_cases hlt : k < s.size
    · have hbe := byteAt_eq hlt
      have hbl := byteAt_lt s k
      have HS : Hid ((41 * (x : Int) + (byteAt s k : Int) + 1) % 999979 = ((sumTo s (k + 1) : Nat) : Int)) := by rw [Hid, sumTo_succ, HX.out]
      have hlt0 : (k : Int) < s.size := by omega
      go_wp2
      go_round
      case rel => exact ⟨k + 1, sumTo s (k + 1), by omega, by go_num, by rw [← HS.out], sumTo_lt _ _, rfl⟩
      case measure => simp [intOf]; omega
    · obtain rfl : k = s.size := by omega
      go_wp2
      go_ret
      exact ⟨ret_i64 (by rw [HX.out]), rfl⟩
set_option maxHeartbeats 1000000 in
theorem l1Sum_any (s : ByteArray) (hs : s.size ≤ maxLen) (w : World) : Calls Try.prog 18 #[.string s] w fun e w' => e = .returned (.int .i64 (sumTo s s.size)) ∧ w = w' := by
  unfold maxLen at hs
  go_enter Try.func18, Try.ntmps18
  go_wp2_with fail
  go_loop [3, 4] (fun h i => ∃ k x : Nat, k ≤ s.size ∧ i = .int .i64 k ∧ h = .int .i64 x ∧ x ≤ 999978 ∧ Hid (x = sumTo s k)) (fun _ i => s.size - (intOf i).toNat)
  case atStart => exact ⟨0, 7, Nat.zero_le _, rfl, rfl, by omega, rfl⟩
  case round =>
    obtain ⟨k, x, hk, rfl, rfl, hx, HX⟩ := hrel
    by_cases hlt : k < s.size
    · have hbe := byteAt_eq hlt
      have hbl := byteAt_lt s k
      have HS : Hid ((41 * (x : Int) + (byteAt s k : Int) + 1) % 999979 = ((sumTo s (k + 1) : Nat) : Int)) := by rw [Hid, sumTo_succ, HX.out]
      have hlt0 : (k : Int) < s.size := by omega
      go_wp2
      go_round
      case rel => exact ⟨k + 1, sumTo s (k + 1), by omega, by go_num, by rw [← HS.out], sumTo_lt _ _, rfl⟩
      case measure => simp [intOf]; omega
    · obtain rfl : k = s.size := by omega
      go_wp2
      go_ret
      exact ⟨ret_i64 (by rw [HX.out]), rfl⟩

/-- Checksum -/
def sumOk (s : ByteArray) : Bool := decide (s.size ≤ 4000)
def sumR (s : ByteArray) : Int := if sumOk s then (sumTo s s.size : Int) else 0
theorem spec_Checksum {s : ByteArray} {w : World} (hs : s.size ≤ 1048576) : Calls Try.prog 6 #[.string s] w (Gives w (.tuple #[.int .i64 (sumR s), .bool (sumOk s)])) := by
  by_cases h : s.size ≤ 4000
  · have HO : Hid (sumOk s = true) := by simp [Hid, sumOk, h]
    have HR : Hid (sumR s = (sumTo s s.size : Int)) := by rw [Hid, sumR, HO.out]; rfl
    have h' : (s.size : Int) ≤ 4000 := by omega
    go_enter Try.func6, Try.ntmps6
    go_wp2_with fail
    refine (l1Sum_any s (by unfold maxLen; omega) _).mono ?_
    rintro e w1 ⟨rfl, rfl⟩
    go_wp2_with fail
    go_ret2
    exact Gives.mk (by rw [HO.out, HR.out]; rfl) (Below.refl _ _)
  · have HO : Hid (sumOk s = false) := by simp [Hid, sumOk]; omega
    have HR : Hid (sumR s = 0) := by rw [Hid, sumR, HO.out]; rfl
    have h' : (4000 : Int) < s.size := by omega
    go_enter Try.func6, Try.ntmps6
    go_wp2_with fail
    go_ret2
    exact Gives.mk (by rw [HO.out, HR.out]; rfl) (Below.refl _ _)
theorem impl_Checksum {s : ByteArray} {w : World} (hs : s.size ≤ 1048576) : Calls Try.prog 7 #[.string s] w (Gives w (.tuple #[.int .i64 (sumR s), .bool (sumOk s)])) := by
  by_cases h : s.size ≤ 4000
  · have HO : Hid (sumOk s = true) := by simp [Hid, sumOk, h]
    have HR : Hid (sumR s = (sumTo s s.size : Int)) := by rw [Hid, sumR, HO.out]; rfl
    have h' : (s.size : Int) ≤ 4000 := by omega
    go_enter Try.func7, Try.ntmps7
    go_wp2_with fail
    refine (checksum_any s (by unfold maxLen; omega) _).mono ?_
    rintro e w1 ⟨rfl, rfl⟩
    go_wp2_with fail
    go_ret2
    exact Gives.mk (by rw [HO.out, HR.out]; rfl) (Below.refl _ _)
  · have HO : Hid (sumOk s = false) := by simp [Hid, sumOk]; omega
    have HR : Hid (sumR s = 0) := by rw [Hid, sumR, HO.out]; rfl
    have h' : (4000 : Int) < s.size := by omega
    go_enter Try.func7, Try.ntmps7
    go_wp2_with fail
    go_ret2
    exact Gives.mk (by rw [HO.out, HR.out]; rfl) (Below.refl _ _)
end Go.Proofs.Ytfdlofjkbaajdaa
