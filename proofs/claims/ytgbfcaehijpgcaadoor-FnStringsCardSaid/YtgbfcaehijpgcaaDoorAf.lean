/- How much of a bound is left. -/
import Derived.Test.YtgbfcaehijpgcaaDoorD
namespace Go.Proofs.YtgbfcaehijpgcaaDoor
set_option maxRecDepth 100000
def after (n : Nat) (left : Int) : Int := if (n : Int) ≤ left then left - n else -1
theorem after_neg {n : Nat} {left : Int} (h : left < n) : after n left = -1 := by unfold after; rw [if_neg (by omega)]
theorem after_pos {n : Nat} {left : Int} (h : n ≤ left) : after n left = left - n := by unfold after; rw [if_pos h]
end Go.Proofs.YtgbfcaehijpgcaaDoor
