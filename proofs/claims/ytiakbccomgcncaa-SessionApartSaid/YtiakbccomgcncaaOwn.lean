/- Two closed facts on the program. No condition. -/
import Derived.Test.YtiakbccomgcncaaFrame
import Derived.Test.YtiakbccomgcncaaRows
namespace Go.Proofs.Ytiakbccomgcncaa
open Go.RowKit Go.ChangeShapes Go.WideShapes Go.ChangeAt

theorem Try.own : ownKnob Try.prog.godebug = none := by kernel_rfl
theorem Try.laidOut : laidOutB Try.prog = true := by kernel_rfl

end Go.Proofs.Ytiakbccomgcncaa
