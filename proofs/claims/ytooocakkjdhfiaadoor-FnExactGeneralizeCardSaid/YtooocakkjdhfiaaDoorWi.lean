/- A number lies between two: the program's and the reference's. -/
import Derived.Test.YtooocakkjdhfiaaDoorRows
import Derived.Test.YtooocakkjdhfiaaDoorCh
import Derived.Test.YtooocakkjdhfiaaDoorBr
import Derived.WalkSpells
import Derived.WalkLawsBesides
namespace Go.Proofs.YtooocakkjdhfiaaDoor
set_option maxRecDepth 100000
open Go.RowKit

/-- lo ≤ n ≤ hi -/
def inB (n lo hi : Int) : Bool := decide (lo ≤ n) && decide (n ≤ hi)
theorem inB_yes {n lo hi : Int} (h : lo ≤ n) (k : n ≤ hi) : inB n lo hi = true := by simp [inB, h, k]
theorem inB_no {n lo hi : Int} (h : n < lo ∨ hi < n) : inB n lo hi = false := by
  rw [Bool.eq_false_iff]; intro e; simp [inB] at e; omega
theorem within_any (n lo hi : Int) (w : World) : Calls Tryd.prog 50 #[.int .i64 n, .int .i64 lo, .int .i64 hi] w fun e w' => e = .returned (.bool (inB n lo hi)) ∧ w = w' := by
  have H : Hid (inB n lo hi = (decide (lo ≤ n) && decide (n ≤ hi))) := rfl
  by_cases h1 : lo ≤ n
  all_goals
    go_enter Tryd.func50, Tryd.ntmps50
    go_wp2
    go_ret
    exact ⟨ret_bool (by rw [H.out, Bool.eq_iff_iff]; simp; omega), rfl⟩
theorem l1In_any (n lo hi : Int) (w : World) : Calls Tryd.prog 36 #[.int .i64 n, .int .i64 lo, .int .i64 hi] w fun e w' => e = .returned (.bool (inB n lo hi)) ∧ w = w' := by
  have H : Hid (inB n lo hi = (decide (lo ≤ n) && decide (n ≤ hi))) := rfl
  by_cases h1 : lo ≤ n
  all_goals
    go_enter Tryd.func36, Tryd.ntmps36
    go_wp2
    go_ret
    exact ⟨ret_bool (by rw [H.out, Bool.eq_iff_iff]; simp; omega), rfl⟩
end Go.Proofs.YtooocakkjdhfiaaDoor
