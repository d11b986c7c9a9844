/- Terms are compared: the walk of the reference. -/
import Derived.Test.YtglhbaigigdeeaaDoorCp
namespace Go.Proofs.YtglhbaigigdeeaaDoor
set_option maxRecDepth 100000
open Go.RowKit

/-- f compares two terms -/
def Cmps (f : FuncId) (t : Tm) : Prop := ∀ ⦃u : Tm⦄ ⦃S : Nat → Prop⦄ ⦃c0 c1 d0 d1 : Value⦄ ⦃w : World⦄, Tm.at S w c0 c1 t → Tm.at S w d0 d1 u → Calls Tryd.prog f #[.agg #[c0, c1], .agg #[d0, d1]] w (Gives w (.int .i64 (Tm.cmp t u)))
end Go.Proofs.YtglhbaigigdeeaaDoor
