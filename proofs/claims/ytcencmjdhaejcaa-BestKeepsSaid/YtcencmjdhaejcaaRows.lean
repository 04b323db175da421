/-
  No cell of these rows narrows 'for every input' (looked for: loops, veiled, ifaces, maps, wideKeys, modest, calm, conditions, laid).
  DERIVED. THE GIVEN ROWS OF THIS SEAT. 7 by the template 'for every input the law returns true; each argument reads behind the call as it read before'; 0 by the template 'total and deterministic' (their statements: YtcencmjdhaejcaaTotals.lean).
  GIVEN WITH THE SEED: the statements are not yours to turn. If you find one false, say at which input.
  Laid BY PROGRAM, IN A SANDBOX (cutbox-rows.mjs): the forced cells as the released guide's own fill.sh prints them over the translation 2363f1ae6bcd0d24… (all of the seat's roots in one cut). By AI agents, Wed Nov 11 2026. No macro, syntax, notation, axiom, sorry.
-/
import Derived.Test.YtcencmjdhaejcaaChecked
import GoSem.Claim
import GoSem.ClaimJoined
import GoSem.ClaimMapViews
import Derived.JoinedTies
import Derived.KernelRfl
namespace Go.Proofs.Ytcencmjdhaejcaa
/- THE CELL 'sum', in the pinned program and in every row, IS THE sha256 OF THE DUMP (.gsa) THAT YtcencmjdhaejcaaProg.lean LOADS. Nothing in Lean hashes anything: it is a label: what it is worth is what the hold of that sum in a sandbox is worth. -/
noncomputable def Try.pinned : Pinned := { name := "ytcencmjdhaejcaa", sum := "2363f1ae6bcd0d24a48cf157f180dde6ed61b9f944c3d367573fe480fd96bdb3", checked := Try.checked }
namespace Rows
def none {H : Type} : Left H := { results := [], args := [] }

/-- 'abecedarylaw13.BestBetter': WHATEVER THE INPUT: true; the input reads as it did. -/
def bestBetterSpec : ChangeSpec := { name := "bestBetter", fn := fun _ => fun
  | [d1, d2] => { results := [.lit (.bool true)], args := [d1, d2] }
  | _ => none }
def bestBetterRow : OpenClaim := { program := "ytcencmjdhaejcaa", sum := "2363f1ae6bcd0d24a48cf157f180dde6ed61b9f944c3d367573fe480fd96bdb3", func := "abecedary/abecedarylaw13.BestBetter", spec := "bestBetter", unfollowed := true, recurses := true, apart := false }
def BestBetterSaid : Prop := bestBetterRow.holds Try.pinned (OpenSpec.ofChange bestBetterSpec)

/-- ITS FALSE NEIGHBOUR: 'it returns false'. Refute it at one input. -/
def bestBetterWrong : ChangeSpec := { name := "bestBetter", fn := fun _ => fun
  | [d1, d2] => { results := [.lit (.bool false)], args := [d1, d2] }
  | _ => none }
def BestBetterWrongFalsely : Prop := bestBetterRow.holds Try.pinned (OpenSpec.ofChange bestBetterWrong)

/-- 'abecedarylaw13.BestOrder': WHATEVER THE INPUT: true; the input reads as it did. -/
def bestOrderSpec : ChangeSpec := { name := "bestOrder", fn := fun _ => fun
  | [d1, d2, d3] => { results := [.lit (.bool true)], args := [d1, d2, d3] }
  | _ => none }
def bestOrderRow : OpenClaim := { program := "ytcencmjdhaejcaa", sum := "2363f1ae6bcd0d24a48cf157f180dde6ed61b9f944c3d367573fe480fd96bdb3", func := "abecedary/abecedarylaw13.BestOrder", spec := "bestOrder", unfollowed := true, recurses := true, apart := false }
def BestOrderSaid : Prop := bestOrderRow.holds Try.pinned (OpenSpec.ofChange bestOrderSpec)

/-- ITS FALSE NEIGHBOUR: 'it returns false'. Refute it at one input. -/
def bestOrderWrong : ChangeSpec := { name := "bestOrder", fn := fun _ => fun
  | [d1, d2, d3] => { results := [.lit (.bool false)], args := [d1, d2, d3] }
  | _ => none }
def BestOrderWrongFalsely : Prop := bestOrderRow.holds Try.pinned (OpenSpec.ofChange bestOrderWrong)

/-- 'abecedarylaw13.BestSelects': WHATEVER THE INPUT: true; the input reads as it did. -/
def bestSelectsSpec : ChangeSpec := { name := "bestSelects", fn := fun _ => fun
  | [d1, d2] => { results := [.lit (.bool true)], args := [d1, d2] }
  | _ => none }
def bestSelectsRow : OpenClaim := { program := "ytcencmjdhaejcaa", sum := "2363f1ae6bcd0d24a48cf157f180dde6ed61b9f944c3d367573fe480fd96bdb3", func := "abecedary/abecedarylaw13.BestSelects", spec := "bestSelects", unfollowed := true, recurses := true, apart := false }
def BestSelectsSaid : Prop := bestSelectsRow.holds Try.pinned (OpenSpec.ofChange bestSelectsSpec)

/-- ITS FALSE NEIGHBOUR: 'it returns false'. Refute it at one input. -/
def bestSelectsWrong : ChangeSpec := { name := "bestSelects", fn := fun _ => fun
  | [d1, d2] => { results := [.lit (.bool false)], args := [d1, d2] }
  | _ => none }
def BestSelectsWrongFalsely : Prop := bestSelectsRow.holds Try.pinned (OpenSpec.ofChange bestSelectsWrong)

/-- 'abecedarylaw13.BestAnyhow': WHATEVER THE INPUT: true; the input reads as it did. -/
def bestAnyhowSpec : ChangeSpec := { name := "bestAnyhow", fn := fun _ => fun
  | [d1, d2, d3] => { results := [.lit (.bool true)], args := [d1, d2, d3] }
  | _ => none }
def bestAnyhowRow : OpenClaim := { program := "ytcencmjdhaejcaa", sum := "2363f1ae6bcd0d24a48cf157f180dde6ed61b9f944c3d367573fe480fd96bdb3", func := "abecedary/abecedarylaw13.BestAnyhow", spec := "bestAnyhow", unfollowed := true, recurses := true, apart := false }
def BestAnyhowSaid : Prop := bestAnyhowRow.holds Try.pinned (OpenSpec.ofChange bestAnyhowSpec)

/-- ITS FALSE NEIGHBOUR: 'it returns false'. Refute it at one input. -/
def bestAnyhowWrong : ChangeSpec := { name := "bestAnyhow", fn := fun _ => fun
  | [d1, d2, d3] => { results := [.lit (.bool false)], args := [d1, d2, d3] }
  | _ => none }
def BestAnyhowWrongFalsely : Prop := bestAnyhowRow.holds Try.pinned (OpenSpec.ofChange bestAnyhowWrong)

/-- 'abecedarylaw13.BestFew': WHATEVER THE INPUT: true; the input reads as it did. -/
def bestFewSpec : ChangeSpec := { name := "bestFew", fn := fun _ => fun
  | [d1, d2] => { results := [.lit (.bool true)], args := [d1, d2] }
  | _ => none }
def bestFewRow : OpenClaim := { program := "ytcencmjdhaejcaa", sum := "2363f1ae6bcd0d24a48cf157f180dde6ed61b9f944c3d367573fe480fd96bdb3", func := "abecedary/abecedarylaw13.BestFew", spec := "bestFew", unfollowed := true, recurses := true, apart := false }
def BestFewSaid : Prop := bestFewRow.holds Try.pinned (OpenSpec.ofChange bestFewSpec)

/-- ITS FALSE NEIGHBOUR: 'it returns false'. Refute it at one input. -/
def bestFewWrong : ChangeSpec := { name := "bestFew", fn := fun _ => fun
  | [d1, d2] => { results := [.lit (.bool false)], args := [d1, d2] }
  | _ => none }
def BestFewWrongFalsely : Prop := bestFewRow.holds Try.pinned (OpenSpec.ofChange bestFewWrong)

/-- 'abecedarylaw13.BestTwice': WHATEVER THE INPUT: true; the input reads as it did. -/
def bestTwiceSpec : ChangeSpec := { name := "bestTwice", fn := fun _ => fun
  | [d1, d2, d3] => { results := [.lit (.bool true)], args := [d1, d2, d3] }
  | _ => none }
def bestTwiceRow : OpenClaim := { program := "ytcencmjdhaejcaa", sum := "2363f1ae6bcd0d24a48cf157f180dde6ed61b9f944c3d367573fe480fd96bdb3", func := "abecedary/abecedarylaw13.BestTwice", spec := "bestTwice", unfollowed := true, recurses := true, apart := false }
def BestTwiceSaid : Prop := bestTwiceRow.holds Try.pinned (OpenSpec.ofChange bestTwiceSpec)

/-- ITS FALSE NEIGHBOUR: 'it returns false'. Refute it at one input. -/
def bestTwiceWrong : ChangeSpec := { name := "bestTwice", fn := fun _ => fun
  | [d1, d2, d3] => { results := [.lit (.bool false)], args := [d1, d2, d3] }
  | _ => none }
def BestTwiceWrongFalsely : Prop := bestTwiceRow.holds Try.pinned (OpenSpec.ofChange bestTwiceWrong)

/-- 'abecedarylaw13.BestKeeps': WHATEVER THE INPUT: true; the input reads as it did. -/
def bestKeepsSpec : ChangeSpec := { name := "bestKeeps", fn := fun _ => fun
  | [d1, d2] => { results := [.lit (.bool true)], args := [d1, d2] }
  | _ => none }
def bestKeepsRow : OpenClaim := { program := "ytcencmjdhaejcaa", sum := "2363f1ae6bcd0d24a48cf157f180dde6ed61b9f944c3d367573fe480fd96bdb3", func := "abecedary/abecedarylaw13.BestKeeps", spec := "bestKeeps", unfollowed := true, recurses := true, apart := false }
def BestKeepsSaid : Prop := bestKeepsRow.holds Try.pinned (OpenSpec.ofChange bestKeepsSpec)

/-- ITS FALSE NEIGHBOUR: 'it returns false'. Refute it at one input. -/
def bestKeepsWrong : ChangeSpec := { name := "bestKeeps", fn := fun _ => fun
  | [d1, d2] => { results := [.lit (.bool false)], args := [d1, d2] }
  | _ => none }
def BestKeepsWrongFalsely : Prop := bestKeepsRow.holds Try.pinned (OpenSpec.ofChange bestKeepsWrong)

/- THE SECOND FORM. 'bulk': how many values and letters a reading holds, each counted each time it is reached (what is shared counts as often as it is met; a slice's spare places count too). A statement '..UptoSaid' is the law's where the arguments, and the package variables that the reading takes, are together of bulk at most 1048576: NARROWER than '..Said'. Prove '..Said' where nothing that the law and all that it calls make is longer than what came in: it says more and counts as full. Else prove '..UptoSaid'. A law counts once. -/
mutual
def uptoBulk {H : Type} : DataW H → Nat
  | .lit (.string bytes) => bytes.length + 1
  | .lit _ => 1
  | .nil => 1
  | .ptr d => uptoBulk d + 1
  | .slice elems spare => uptoBulkAll elems + uptoBulkAll spare + 1
  | .agg parts => uptoBulkAll parts + 1
  | .iface _ d => uptoBulk d + 1
  | .map entries => uptoBulkEntries entries + 1
  | .held _ => 1
def uptoBulkAll {H : Type} : List (DataW H) → Nat
  | [] => 0
  | d :: r => uptoBulk d + uptoBulkAll r
def uptoBulkEntries {H : Type} : List (Lit × DataW H) → Nat
  | [] => 0
  | x :: r => uptoBulkEntry x + uptoBulkEntries r
def uptoBulkEntry {H : Type} : Lit × DataW H → Nat
  | (.string bytes, d) => bytes.length + uptoBulk d + 1
  | (_, d) => uptoBulk d + 1
 end
def uptoSmall : (H : Type) → List (DataW H) → Bool := fun _ ds => decide (uptoBulkAll ds ≤ 1048576)
def OpenSpec.upto (s : _root_.Go.ChangeSpec) : _root_.Go.OpenSpec := { _root_.Go.OpenSpec.ofChange s with cond := some uptoSmall }

/-- 'abecedarylaw13.BestBetter', WHERE WHAT IT READS IS OF BULK AT MOST 1048576: true; the input reads as it did. -/
def bestBetterUptoRow : OpenClaim := { program := "ytcencmjdhaejcaa", sum := "2363f1ae6bcd0d24a48cf157f180dde6ed61b9f944c3d367573fe480fd96bdb3", func := "abecedary/abecedarylaw13.BestBetter", spec := "bestBetter", unfollowed := true, recurses := true, apart := false, narrowed := true }
def BestBetterUptoSaid : Prop := bestBetterUptoRow.holds Try.pinned (OpenSpec.upto bestBetterSpec)

/-- 'abecedarylaw13.BestOrder', WHERE WHAT IT READS IS OF BULK AT MOST 1048576: true; the input reads as it did. -/
def bestOrderUptoRow : OpenClaim := { program := "ytcencmjdhaejcaa", sum := "2363f1ae6bcd0d24a48cf157f180dde6ed61b9f944c3d367573fe480fd96bdb3", func := "abecedary/abecedarylaw13.BestOrder", spec := "bestOrder", unfollowed := true, recurses := true, apart := false, narrowed := true }
def BestOrderUptoSaid : Prop := bestOrderUptoRow.holds Try.pinned (OpenSpec.upto bestOrderSpec)

/-- 'abecedarylaw13.BestSelects', WHERE WHAT IT READS IS OF BULK AT MOST 1048576: true; the input reads as it did. -/
def bestSelectsUptoRow : OpenClaim := { program := "ytcencmjdhaejcaa", sum := "2363f1ae6bcd0d24a48cf157f180dde6ed61b9f944c3d367573fe480fd96bdb3", func := "abecedary/abecedarylaw13.BestSelects", spec := "bestSelects", unfollowed := true, recurses := true, apart := false, narrowed := true }
def BestSelectsUptoSaid : Prop := bestSelectsUptoRow.holds Try.pinned (OpenSpec.upto bestSelectsSpec)

/-- 'abecedarylaw13.BestAnyhow', WHERE WHAT IT READS IS OF BULK AT MOST 1048576: true; the input reads as it did. -/
def bestAnyhowUptoRow : OpenClaim := { program := "ytcencmjdhaejcaa", sum := "2363f1ae6bcd0d24a48cf157f180dde6ed61b9f944c3d367573fe480fd96bdb3", func := "abecedary/abecedarylaw13.BestAnyhow", spec := "bestAnyhow", unfollowed := true, recurses := true, apart := false, narrowed := true }
def BestAnyhowUptoSaid : Prop := bestAnyhowUptoRow.holds Try.pinned (OpenSpec.upto bestAnyhowSpec)

/-- 'abecedarylaw13.BestFew', WHERE WHAT IT READS IS OF BULK AT MOST 1048576: true; the input reads as it did. -/
def bestFewUptoRow : OpenClaim := { program := "ytcencmjdhaejcaa", sum := "2363f1ae6bcd0d24a48cf157f180dde6ed61b9f944c3d367573fe480fd96bdb3", func := "abecedary/abecedarylaw13.BestFew", spec := "bestFew", unfollowed := true, recurses := true, apart := false, narrowed := true }
def BestFewUptoSaid : Prop := bestFewUptoRow.holds Try.pinned (OpenSpec.upto bestFewSpec)

/-- 'abecedarylaw13.BestTwice', WHERE WHAT IT READS IS OF BULK AT MOST 1048576: true; the input reads as it did. -/
def bestTwiceUptoRow : OpenClaim := { program := "ytcencmjdhaejcaa", sum := "2363f1ae6bcd0d24a48cf157f180dde6ed61b9f944c3d367573fe480fd96bdb3", func := "abecedary/abecedarylaw13.BestTwice", spec := "bestTwice", unfollowed := true, recurses := true, apart := false, narrowed := true }
def BestTwiceUptoSaid : Prop := bestTwiceUptoRow.holds Try.pinned (OpenSpec.upto bestTwiceSpec)

/-- 'abecedarylaw13.BestKeeps', WHERE WHAT IT READS IS OF BULK AT MOST 1048576: true; the input reads as it did. -/
def bestKeepsUptoRow : OpenClaim := { program := "ytcencmjdhaejcaa", sum := "2363f1ae6bcd0d24a48cf157f180dde6ed61b9f944c3d367573fe480fd96bdb3", func := "abecedary/abecedarylaw13.BestKeeps", spec := "bestKeeps", unfollowed := true, recurses := true, apart := false, narrowed := true }
def BestKeepsUptoSaid : Prop := bestKeepsUptoRow.holds Try.pinned (OpenSpec.upto bestKeepsSpec)

end Rows
end Go.Proofs.Ytcencmjdhaejcaa
