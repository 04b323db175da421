/- Two closed facts on the program. No condition. -/
import Derived.Test.YtcencmjdhaejcaaFrame
import Derived.Test.YtcencmjdhaejcaaRows
namespace Go.Proofs.Ytcencmjdhaejcaa
open Go.RowKit Go.ChangeShapes Go.WideShapes Go.ChangeAt

theorem Try.own : ownKnob Try.prog.godebug = none := by kernel_rfl
theorem Try.laidOut : laidOutB Try.prog = true := by kernel_rfl

end Go.Proofs.Ytcencmjdhaejcaa
