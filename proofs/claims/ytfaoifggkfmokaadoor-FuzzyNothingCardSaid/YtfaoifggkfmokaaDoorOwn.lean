/- Two closed facts on the program. No condition. -/
import Derived.Test.YtfaoifggkfmokaaDoorFnd
import Derived.Test.YtfaoifggkfmokaaDoorRows
namespace Go.Proofs.YtfaoifggkfmokaaDoor
open Go.RowKit Go.ChangeShapes Go.WideShapes Go.ChangeAt

theorem Tryd.own : ownKnob Tryd.prog.godebug = none := by kernel_rfl
theorem Tryd.laidOut : laidOutB Tryd.prog = true := by kernel_rfl

end Go.Proofs.YtfaoifggkfmokaaDoor
