/- Two closed facts of the program. -/
import Derived.Test.YtfdlofjkbaajdaaRows
import Derived.Test.YtfdlofjkbaajdaaBr
namespace Go.Proofs.Ytfdlofjkbaajdaa
set_option maxRecDepth 100000
open Go.RowKit Go.ChangeShapes Go.WideShapes
theorem laidOut : laidOutB Try.prog = true := by kernel_rfl
theorem own : ownKnob Try.prog.godebug = none := by kernel_rfl
end Go.Proofs.Ytfdlofjkbaajdaa
