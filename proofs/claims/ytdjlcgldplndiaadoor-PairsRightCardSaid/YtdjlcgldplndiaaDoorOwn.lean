/- Two closed facts on the program. No condition. -/
import Derived.Test.YtdjlcgldplndiaaDoorFrame
import Derived.Test.YtdjlcgldplndiaaDoorRows
namespace Go.Proofs.YtdjlcgldplndiaaDoor
open Go.RowKit Go.ChangeShapes Go.WideShapes Go.ChangeAt

theorem Tryd.own : ownKnob Tryd.prog.godebug = none := by kernel_rfl
theorem Tryd.laidOut : laidOutB Tryd.prog = true := by kernel_rfl

end Go.Proofs.YtdjlcgldplndiaaDoor
