/- The bytes of a string, as a list. -/
import Derived.Test.YtgbfcaehijpgcaaDoorCh
namespace Go.Proofs.YtgbfcaehijpgcaaDoor
set_option maxRecDepth 100000

theorem byteAt_list {s : ByteArray} {k : Nat} (h : k < s.size) : ∃ b : UInt8, s.data.toList[k]? = some b ∧ b.toNat = byteAt s k := by
  have h' : k < s.data.size := h
  refine ⟨s.data[k], by simp, ?_⟩
  rw [← byteAt_eq h]; rfl
theorem size_list (s : ByteArray) : s.data.toList.length = s.size := Array.length_toList
end Go.Proofs.YtgbfcaehijpgcaaDoor
