/- Two closed facts on the program, and a witness. No condition. -/
import Derived.Test.YthockgmbooefpaaDoorD45
import Derived.Test.YthockgmbooefpaaDoorRows
namespace Go.Proofs.YthockgmbooefpaaDoor
open Go.RowKit Go.ChangeShapes Go.WideShapes Go.ChangeAt

theorem Tryd.own : ownKnob Tryd.prog.godebug = none := by kernel_rfl
theorem Tryd.laidOut : laidOutB Tryd.prog = true := by kernel_rfl
/-- A world in which the listed variable holds what its initialiser lays. -/
noncomputable def laidWorld (os : Os) : World :=
  { World.holding Tryd.prog os ⟨#[], #[], []⟩ with heap := (World.holding Tryd.prog os ⟨#[], #[], []⟩).heap.modify 0 fun
      | .cells _ t frozen => .cells #[.int .i32 0, .int .i32 0, .int .i32 128, .int .i32 2048, .int .i32 65536] t frozen
      | o => o }
/-- What touches no old memory stays below. -/
theorem ret_below {P : Program} {f : FuncId} {args : Array Value} {W : World} (h : Calls P f args W fun e W' => e = .returned (.bool true) ∧ Touch (fun _ => False) W W') : Calls P f args W fun e W' => e = .returned (.bool true) ∧ Below W.heap.size W W' :=
  h.mono (by rintro e W' ⟨rfl, T⟩; exact ⟨rfl, T.below (Nat.le_refl _) (fun _ _ f => f)⟩)

end Go.Proofs.YthockgmbooefpaaDoor
