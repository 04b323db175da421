/- Two closed facts on the program. No condition. -/
import Derived.Test.YtnakpadjlamdeaaDoorFnd
import Derived.Test.YtnakpadjlamdeaaDoorRows
namespace Go.Proofs.YtnakpadjlamdeaaDoor
open Go.RowKit Go.ChangeShapes Go.WideShapes Go.ChangeAt

theorem Tryd.own : ownKnob Tryd.prog.godebug = none := by kernel_rfl
theorem Tryd.laidOut : laidOutB Tryd.prog = true := by kernel_rfl

end Go.Proofs.YtnakpadjlamdeaaDoor
