/- Two closed facts on the program. No condition. -/
import Derived.Test.YtcmjohaohdgnjaaDoorFnd
import Derived.Test.YtcmjohaohdgnjaaDoorRows
namespace Go.Proofs.YtcmjohaohdgnjaaDoor
open Go.RowKit Go.ChangeShapes Go.WideShapes Go.ChangeAt

theorem Tryd.own : ownKnob Tryd.prog.godebug = none := by kernel_rfl
theorem Tryd.laidOut : laidOutB Tryd.prog = true := by kernel_rfl

end Go.Proofs.YtcmjohaohdgnjaaDoor
