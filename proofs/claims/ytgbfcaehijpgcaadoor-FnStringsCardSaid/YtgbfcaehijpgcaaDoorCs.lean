/- The checksum of a string. -/
import Derived.Test.YtgbfcaehijpgcaaDoorRows
import Derived.Test.YtgbfcaehijpgcaaDoorCh
import Derived.Test.YtgbfcaehijpgcaaDoorReg
import Derived.WalkSpells
import Derived.WalkLawsBesides
namespace Go.Proofs.YtgbfcaehijpgcaaDoor
set_option maxRecDepth 100000
open Go.RowKit

/-- the checksum of the first k bytes -/
def sumTo (s : ByteArray) : Nat → Nat
  | 0 => 7
  | k + 1 => (41 * sumTo s k + byteAt s k + 1) % 999979
theorem sumTo_lt (s : ByteArray) (k : Nat) : sumTo s k ≤ 999978 := by
  cases k with
  | zero => show 7 ≤ 999978; omega
  | succ k => rw [sumTo]; omega
theorem sumTo_succ (s : ByteArray) (k : Nat) : ((sumTo s (k + 1) : Nat) : Int) = (41 * (sumTo s k : Int) + (byteAt s k : Int) + 1) % 999979 := by rw [sumTo]; omega

set_option maxHeartbeats 1000000 in
theorem checksum_any (s : ByteArray) (hs : s.size ≤ maxLen) (w : World) : Calls Tryd.prog 54 #[.string s] w fun e w' => e = .returned (.int .i64 (sumTo s s.size)) ∧ w = w' := by
  unfold maxLen at hs
  go_enter Tryd.func54, Tryd.ntmps54
  go_wp2_with fail
  go_loop [3, 7] (fun h i => ∃ k x : Nat, k ≤ s.size ∧ i = .int .i64 k ∧ h = .int .i64 x ∧ x ≤ 999978 ∧ Hid (x = sumTo s k)) (fun _ i => s.size - (intOf i).toNat)
  case atStart => exact ⟨0, 7, Nat.zero_le _, rfl, rfl, by omega, rfl⟩
  case round =>
    obtain ⟨k, x, hk, rfl, rfl, hx, HX⟩ := hrel
    by_cases hlt : k < s.size
    · have hbe := byteAt_eq hlt
      have hbl := byteAt_lt s k
      have HS : Hid ((41 * (x : Int) + (byteAt s k : Int) + 1) % 999979 = ((sumTo s (k + 1) : Nat) : Int)) := by rw [Hid, sumTo_succ, HX.out]
      have hlt0 : (k : Int) < s.size := by omega
      go_wp2
      go_round
      case rel => exact ⟨k + 1, sumTo s (k + 1), by omega, by go_num, by rw [← HS.out], sumTo_lt _ _, rfl⟩
      case measure => simp [intOf]; omega
    · obtain rfl : k = s.size := by omega
      go_wp2
      go_ret
      exact ⟨ret_i64 (by rw [HX.out]), rfl⟩
set_option maxHeartbeats 1000000 in
theorem l1Sum_any (s : ByteArray) (hs : s.size ≤ maxLen) (w : World) : Calls Tryd.prog 73 #[.string s] w fun e w' => e = .returned (.int .i64 (sumTo s s.size)) ∧ w = w' := by
  unfold maxLen at hs
  go_enter Tryd.func73, Tryd.ntmps73
  go_wp2_with fail
  go_loop [3, 4] (fun h i => ∃ k x : Nat, k ≤ s.size ∧ i = .int .i64 k ∧ h = .int .i64 x ∧ x ≤ 999978 ∧ Hid (x = sumTo s k)) (fun _ i => s.size - (intOf i).toNat)
  case atStart => exact ⟨0, 7, Nat.zero_le _, rfl, rfl, by omega, rfl⟩
  case round =>
    obtain ⟨k, x, hk, rfl, rfl, hx, HX⟩ := hrel
    by_cases hlt : k < s.size
    · have hbe := byteAt_eq hlt
      have hbl := byteAt_lt s k
      have HS : Hid ((41 * (x : Int) + (byteAt s k : Int) + 1) % 999979 = ((sumTo s (k + 1) : Nat) : Int)) := by rw [Hid, sumTo_succ, HX.out]
      have hlt0 : (k : Int) < s.size := by omega
      go_wp2
      go_round
      case rel => exact ⟨k + 1, sumTo s (k + 1), by omega, by go_num, by rw [← HS.out], sumTo_lt _ _, rfl⟩
      case measure => simp [intOf]; omega
    · obtain rfl : k = s.size := by omega
      go_wp2
      go_ret
      exact ⟨ret_i64 (by rw [HX.out]), rfl⟩

/-- Checksum -/
def sumOk (s : ByteArray) : Bool := decide (s.size ≤ 4000)
def sumR (s : ByteArray) : Int := if sumOk s then (sumTo s s.size : Int) else 0
end Go.Proofs.YtgbfcaehijpgcaaDoor
