/- Does a string hold a byte? -/
import Derived.Test.YtgbfcaehijpgcaaDoorRows
import Derived.Test.YtgbfcaehijpgcaaDoorCh
import Derived.Test.YtgbfcaehijpgcaaDoorBr
import Derived.Test.YtgbfcaehijpgcaaDoorJt
import Derived.WalkSpells
import Derived.WalkLawsBesides
namespace Go.Proofs.YtgbfcaehijpgcaaDoor
set_option maxRecDepth 100000
open Go.RowKit

theorem hasByte_iff (c : UInt8) (s : ByteArray) : hasByte c s = true ↔ ∃ i, i < s.size ∧ byteAt s i = c.toNat := by
  rw [hasByte, List.any_eq_true]
  constructor
  · rintro ⟨x, hx, he⟩
    obtain ⟨i, hi, rfl⟩ := List.mem_iff_getElem.1 hx
    have hi' : i < s.size := hi
    refine ⟨i, hi', ?_⟩
    rw [← byteAt_eq hi', ← beq_iff_eq.1 he]
    rfl
  · rintro ⟨i, hi, he⟩
    have hi' : i < s.data.toList.length := hi
    refine ⟨s.data.toList[i], List.getElem_mem hi', beq_iff_eq.2 (UInt8.toNat_inj.1 ?_)⟩
    rw [← he, ← byteAt_eq hi]
    rfl
set_option maxHeartbeats 1000000 in
theorem l1Stands_any (s : ByteArray) (c : UInt8) (hs : s.size ≤ maxLen) (w : World) : Calls Tryd.prog 52 #[.string s, .int .u8 c.toNat] w fun e w' => e = .returned (.bool (hasByte c s)) ∧ w = w' := by
  unfold maxLen at hs
  obtain ⟨C, HC⟩ : ∃ C, Hid (c.toNat = C) := ⟨_, hid rfl⟩
  rw [HC.out]
  go_enter Tryd.func52, Tryd.ntmps52
  go_wp2_with fail
  go_loop [5] (fun i => ∃ k : Nat, k ≤ s.size ∧ i = .int .i64 k ∧ Hid (∀ j < k, byteAt s j ≠ c.toNat)) (fun i => s.size - (intOf i).toNat)
  case atStart => exact ⟨0, Nat.zero_le _, rfl, fun j h => absurd h (by omega)⟩
  case round =>
    obtain ⟨k, hk, rfl, HX⟩ := hrel
    by_cases hlt : k < s.size
    · have hbe := byteAt_eq hlt
      have hbl := byteAt_lt s k
      have hlt0 : (k : Int) < s.size := by omega
      by_cases he : byteAt s k = c.toNat
      · have HF : Hid (hasByte c s = true) := (hasByte_iff c s).2 ⟨k, hlt, he⟩
        have hq : ((byteAt s k : Int) == (C : Int)) = true := by rw [← HC.out, he]; simp
        clear he
        go_wp2
        go_ret
        exact ⟨ret_bool HF.out.symm, rfl⟩
      · have HF : Hid (∀ j < k + 1, byteAt s j ≠ c.toNat) := fun j hj => by
          by_cases h : j < k
          · exact HX.out j h
          · obtain rfl : j = k := by omega
            exact he
        have hq : ((byteAt s k : Int) == (C : Int)) = false := by rw [← HC.out]; simp; omega
        clear he
        go_wp2
        go_round
        case rel => exact ⟨k + 1, by omega, by go_num, HF⟩
        case measure => simp [intOf]; omega
    · obtain rfl : k = s.size := by omega
      have HF : Hid (hasByte c s = false) := by
        rw [Hid, Bool.eq_false_iff, Ne, hasByte_iff]
        rintro ⟨i, hi, he⟩
        exact HX.out i hi he
      go_wp2
      go_ret
      exact ⟨ret_bool HF.out.symm, rfl⟩
end Go.Proofs.YtgbfcaehijpgcaaDoor
