/- The reference's copies of terms. -/
import Derived.Test.YtooocakkjdhfiaaDoorTo
import Derived.Test.YtooocakkjdhfiaaDoorGr
import Derived.Deep.RegionLaw
namespace Go.Proofs.YtooocakkjdhfiaaDoor
set_option maxRecDepth 100000
open Go.RowKit


theorem Tm.cs_eq (t : Tm) : t.cs = [.str t.name, Tm.sd t.args] := by cases t; simp [Tm.cs, Tm.name, Tm.args, Tm.sd]
theorem Tm.own_item {w : World} {t : Tm} {v : Value} {F : List Nat} (hn : t.name.size ≤ maxLen) (h : D.own w v (Tm.sd t.args) F) : OwnsL w [.string t.name, v] t.cs F := by
  have e : t.cs = [.str t.name, Tm.sd t.args] := by cases t; simp [Tm.cs, Tm.name, Tm.args, Tm.sd]
  rw [e]
  have := OwnsL.cons (F := []) (D.own_str hn) (OwnsL.cons h (OwnsL.nil w) (by simp)) (by simp)
  simpa using this

end Go.Proofs.YtooocakkjdhfiaaDoor
