/-
  NARROWER THAN 'FOR EVERY INPUT', by the rows' own cells (each row's printed sentence says how): FuzzyAll: laid · FuzzyMore: laid · FuzzyExact: laid · FuzzyMerges: laid · FuzzyOver: laid · FuzzyNothing: laid.
  DERIVED. THE GIVEN ROWS OF THIS SEAT. 6 by the template 'for every input the law returns true; each argument reads behind the call as it read before'; 0 by the template 'total and deterministic' (their statements: YtfaoifggkfmokaaDoorTotals.lean).
  GIVEN WITH THE SEED: the statements are not yours to turn. If you find one false, say at which input.
  Laid BY PROGRAM, IN A SANDBOX (cutbox-rows.mjs): the forced cells as the released guide's own fill.sh prints them over the translation 64d95d022bba029e… (all of the seat's roots in one cut). By AI agents, Wed Nov 11 2026. No macro, syntax, notation, axiom, sorry.
-/
import Derived.Test.YtfaoifggkfmokaaDoorChecked
import GoSem.Claim
import GoSem.ClaimJoined
import GoSem.ClaimMapViews
import Derived.JoinedTies
import Derived.KernelRfl
namespace Go.Proofs.YtfaoifggkfmokaaDoor
/- THE CELL 'sum', in the pinned program and in every row, IS THE sha256 OF THE DUMP (.gsa) THAT YtfaoifggkfmokaaDoorProg.lean LOADS. Nothing in Lean hashes anything: it is a label: what it is worth is what the hold of that sum in a sandbox is worth. -/
noncomputable def Tryd.pinned : Pinned := { name := "ytfaoifggkfmokaadoor", sum := "64d95d022bba029e923bead4f874f8fc57cb6b06bdbcdd2457491a880a0ab6d8", checked := Tryd.checked }
namespace Rows
def none {H : Type} : Left H := { results := [], args := [] }

/- WHAT THE LISTED PACKAGE-LEVEL VARIABLES READ AS WHEN THE CALL BEGINS. Each datum BY PROGRAM (the guide's laid-datum.mjs) off the statement by which the dump's own 'gosem.cut.vars' lays the variable. In a bare row this is a premise. The card (YtfaoifggkfmokaaDoorCards.lean) ties it to the program's text. -/
def laid_abecedary_letters_least {H : Type} : DataW H := .agg [.lit (.int .i32 0), .lit (.int .i32 0), .lit (.int .i32 128), .lit (.int .i32 2048), .lit (.int .i32 65536)]

/-- 'abecedarylaw12.FuzzyAll': WHATEVER THE INPUT: true; the input reads as it did. -/
def fuzzyAllSpec : ChangeSpec := { name := "fuzzyAll", fn := fun _ => fun
  | [d1, d2, d3] => { results := [.lit (.bool true)], args := [d1, d2, d3] }
  | _ => none }
def fuzzyAllRow : OpenClaim := { program := "ytfaoifggkfmokaadoor", sum := "64d95d022bba029e923bead4f874f8fc57cb6b06bdbcdd2457491a880a0ab6d8", func := "abecedary/abecedarylaw12.FuzzyAll", spec := "fuzzyAll", unfollowed := true, recurses := true, named := ["abecedary/letters.least"], plainKeys := false, apart := false, laid := [("abecedary/letters.least", laid_abecedary_letters_least)] }
def FuzzyAllSaid : Prop := fuzzyAllRow.holds Tryd.pinned (OpenSpec.ofChange fuzzyAllSpec)

/-- ITS FALSE NEIGHBOUR: 'it returns false'. Refute it at one input. -/
def fuzzyAllWrong : ChangeSpec := { name := "fuzzyAll", fn := fun _ => fun
  | [d1, d2, d3] => { results := [.lit (.bool false)], args := [d1, d2, d3] }
  | _ => none }
def FuzzyAllWrongFalsely : Prop := fuzzyAllRow.holds Tryd.pinned (OpenSpec.ofChange fuzzyAllWrong)

/-- 'abecedarylaw12.FuzzyMore': WHATEVER THE INPUT: true; the input reads as it did. -/
def fuzzyMoreSpec : ChangeSpec := { name := "fuzzyMore", fn := fun _ => fun
  | [d1, d2, d3] => { results := [.lit (.bool true)], args := [d1, d2, d3] }
  | _ => none }
def fuzzyMoreRow : OpenClaim := { program := "ytfaoifggkfmokaadoor", sum := "64d95d022bba029e923bead4f874f8fc57cb6b06bdbcdd2457491a880a0ab6d8", func := "abecedary/abecedarylaw12.FuzzyMore", spec := "fuzzyMore", unfollowed := true, recurses := true, named := ["abecedary/letters.least"], plainKeys := false, apart := false, laid := [("abecedary/letters.least", laid_abecedary_letters_least)] }
def FuzzyMoreSaid : Prop := fuzzyMoreRow.holds Tryd.pinned (OpenSpec.ofChange fuzzyMoreSpec)

/-- ITS FALSE NEIGHBOUR: 'it returns false'. Refute it at one input. -/
def fuzzyMoreWrong : ChangeSpec := { name := "fuzzyMore", fn := fun _ => fun
  | [d1, d2, d3] => { results := [.lit (.bool false)], args := [d1, d2, d3] }
  | _ => none }
def FuzzyMoreWrongFalsely : Prop := fuzzyMoreRow.holds Tryd.pinned (OpenSpec.ofChange fuzzyMoreWrong)

/-- 'abecedarylaw12.FuzzyExact': WHATEVER THE INPUT: true; the input reads as it did. -/
def fuzzyExactSpec : ChangeSpec := { name := "fuzzyExact", fn := fun _ => fun
  | [d1, d2] => { results := [.lit (.bool true)], args := [d1, d2] }
  | _ => none }
def fuzzyExactRow : OpenClaim := { program := "ytfaoifggkfmokaadoor", sum := "64d95d022bba029e923bead4f874f8fc57cb6b06bdbcdd2457491a880a0ab6d8", func := "abecedary/abecedarylaw12.FuzzyExact", spec := "fuzzyExact", unfollowed := true, recurses := true, named := ["abecedary/letters.least"], plainKeys := false, apart := false, laid := [("abecedary/letters.least", laid_abecedary_letters_least)] }
def FuzzyExactSaid : Prop := fuzzyExactRow.holds Tryd.pinned (OpenSpec.ofChange fuzzyExactSpec)

/-- ITS FALSE NEIGHBOUR: 'it returns false'. Refute it at one input. -/
def fuzzyExactWrong : ChangeSpec := { name := "fuzzyExact", fn := fun _ => fun
  | [d1, d2] => { results := [.lit (.bool false)], args := [d1, d2] }
  | _ => none }
def FuzzyExactWrongFalsely : Prop := fuzzyExactRow.holds Tryd.pinned (OpenSpec.ofChange fuzzyExactWrong)

/-- 'abecedarylaw12.FuzzyMerges': WHATEVER THE INPUT: true; the input reads as it did. -/
def fuzzyMergesSpec : ChangeSpec := { name := "fuzzyMerges", fn := fun _ => fun
  | [d1, d2, d3] => { results := [.lit (.bool true)], args := [d1, d2, d3] }
  | _ => none }
def fuzzyMergesRow : OpenClaim := { program := "ytfaoifggkfmokaadoor", sum := "64d95d022bba029e923bead4f874f8fc57cb6b06bdbcdd2457491a880a0ab6d8", func := "abecedary/abecedarylaw12.FuzzyMerges", spec := "fuzzyMerges", inPlace := ["internal/bytealg.abigen_runtime_cmpstring"], unfollowed := true, recurses := true, named := ["abecedary/letters.least"], plainKeys := false, apart := false, laid := [("abecedary/letters.least", laid_abecedary_letters_least)] }
def FuzzyMergesSaid : Prop := fuzzyMergesRow.holds Tryd.pinned (OpenSpec.ofChange fuzzyMergesSpec)

/-- ITS FALSE NEIGHBOUR: 'it returns false'. Refute it at one input. -/
def fuzzyMergesWrong : ChangeSpec := { name := "fuzzyMerges", fn := fun _ => fun
  | [d1, d2, d3] => { results := [.lit (.bool false)], args := [d1, d2, d3] }
  | _ => none }
def FuzzyMergesWrongFalsely : Prop := fuzzyMergesRow.holds Tryd.pinned (OpenSpec.ofChange fuzzyMergesWrong)

/-- 'abecedarylaw12.FuzzyOver': WHATEVER THE INPUT: true; the input reads as it did. -/
def fuzzyOverSpec : ChangeSpec := { name := "fuzzyOver", fn := fun _ => fun
  | [d1, d2, d3] => { results := [.lit (.bool true)], args := [d1, d2, d3] }
  | _ => none }
def fuzzyOverRow : OpenClaim := { program := "ytfaoifggkfmokaadoor", sum := "64d95d022bba029e923bead4f874f8fc57cb6b06bdbcdd2457491a880a0ab6d8", func := "abecedary/abecedarylaw12.FuzzyOver", spec := "fuzzyOver", inPlace := ["internal/bytealg.abigen_runtime_cmpstring"], unfollowed := true, recurses := true, named := ["abecedary/letters.least"], plainKeys := false, apart := false, laid := [("abecedary/letters.least", laid_abecedary_letters_least)] }
def FuzzyOverSaid : Prop := fuzzyOverRow.holds Tryd.pinned (OpenSpec.ofChange fuzzyOverSpec)

/-- ITS FALSE NEIGHBOUR: 'it returns false'. Refute it at one input. -/
def fuzzyOverWrong : ChangeSpec := { name := "fuzzyOver", fn := fun _ => fun
  | [d1, d2, d3] => { results := [.lit (.bool false)], args := [d1, d2, d3] }
  | _ => none }
def FuzzyOverWrongFalsely : Prop := fuzzyOverRow.holds Tryd.pinned (OpenSpec.ofChange fuzzyOverWrong)

/-- 'abecedarylaw12.FuzzyNothing': WHATEVER THE INPUT: true; the input reads as it did. -/
def fuzzyNothingSpec : ChangeSpec := { name := "fuzzyNothing", fn := fun _ => fun
  | [d1, d2, d3] => { results := [.lit (.bool true)], args := [d1, d2, d3] }
  | _ => none }
def fuzzyNothingRow : OpenClaim := { program := "ytfaoifggkfmokaadoor", sum := "64d95d022bba029e923bead4f874f8fc57cb6b06bdbcdd2457491a880a0ab6d8", func := "abecedary/abecedarylaw12.FuzzyNothing", spec := "fuzzyNothing", inPlace := ["internal/bytealg.abigen_runtime_cmpstring"], unfollowed := true, recurses := true, named := ["abecedary/letters.least"], plainKeys := false, apart := false, laid := [("abecedary/letters.least", laid_abecedary_letters_least)] }
def FuzzyNothingSaid : Prop := fuzzyNothingRow.holds Tryd.pinned (OpenSpec.ofChange fuzzyNothingSpec)

/-- ITS FALSE NEIGHBOUR: 'it returns false'. Refute it at one input. -/
def fuzzyNothingWrong : ChangeSpec := { name := "fuzzyNothing", fn := fun _ => fun
  | [d1, d2, d3] => { results := [.lit (.bool false)], args := [d1, d2, d3] }
  | _ => none }
def FuzzyNothingWrongFalsely : Prop := fuzzyNothingRow.holds Tryd.pinned (OpenSpec.ofChange fuzzyNothingWrong)

/- THE SECOND FORM. 'bulk': how many values and letters a reading holds, each counted each time it is reached (what is shared counts as often as it is met; a slice's spare places count too). A statement '..UptoSaid' is the law's where the arguments, and the package variables that the reading takes, are together of bulk at most 1048576: NARROWER than '..Said'. Prove '..Said' where nothing that the law and all that it calls make is longer than what came in: it says more and counts as full. Else prove '..UptoSaid'. A law counts once. -/
mutual
def uptoBulk {H : Type} : DataW H → Nat
  | .lit (.string bytes) => bytes.length + 1
  | .lit _ => 1
  | .nil => 1
  | .ptr d => uptoBulk d + 1
  | .slice elems spare => uptoBulkAll elems + uptoBulkAll spare + 1
  | .agg parts => uptoBulkAll parts + 1
  | .iface _ d => uptoBulk d + 1
  | .map entries => uptoBulkEntries entries + 1
  | .held _ => 1
def uptoBulkAll {H : Type} : List (DataW H) → Nat
  | [] => 0
  | d :: r => uptoBulk d + uptoBulkAll r
def uptoBulkEntries {H : Type} : List (Lit × DataW H) → Nat
  | [] => 0
  | x :: r => uptoBulkEntry x + uptoBulkEntries r
def uptoBulkEntry {H : Type} : Lit × DataW H → Nat
  | (.string bytes, d) => bytes.length + uptoBulk d + 1
  | (_, d) => uptoBulk d + 1
 end
def uptoSmall : (H : Type) → List (DataW H) → Bool := fun _ ds => decide (uptoBulkAll ds ≤ 1048576)
def OpenSpec.upto (s : _root_.Go.ChangeSpec) : _root_.Go.OpenSpec := { _root_.Go.OpenSpec.ofChange s with cond := some uptoSmall }

/-- 'abecedarylaw12.FuzzyAll', WHERE WHAT IT READS IS OF BULK AT MOST 1048576: true; the input reads as it did. -/
def fuzzyAllUptoRow : OpenClaim := { program := "ytfaoifggkfmokaadoor", sum := "64d95d022bba029e923bead4f874f8fc57cb6b06bdbcdd2457491a880a0ab6d8", func := "abecedary/abecedarylaw12.FuzzyAll", spec := "fuzzyAll", unfollowed := true, recurses := true, named := ["abecedary/letters.least"], plainKeys := false, apart := false, laid := [("abecedary/letters.least", laid_abecedary_letters_least)], narrowed := true }
def FuzzyAllUptoSaid : Prop := fuzzyAllUptoRow.holds Tryd.pinned (OpenSpec.upto fuzzyAllSpec)

/-- 'abecedarylaw12.FuzzyMore', WHERE WHAT IT READS IS OF BULK AT MOST 1048576: true; the input reads as it did. -/
def fuzzyMoreUptoRow : OpenClaim := { program := "ytfaoifggkfmokaadoor", sum := "64d95d022bba029e923bead4f874f8fc57cb6b06bdbcdd2457491a880a0ab6d8", func := "abecedary/abecedarylaw12.FuzzyMore", spec := "fuzzyMore", unfollowed := true, recurses := true, named := ["abecedary/letters.least"], plainKeys := false, apart := false, laid := [("abecedary/letters.least", laid_abecedary_letters_least)], narrowed := true }
def FuzzyMoreUptoSaid : Prop := fuzzyMoreUptoRow.holds Tryd.pinned (OpenSpec.upto fuzzyMoreSpec)

/-- 'abecedarylaw12.FuzzyExact', WHERE WHAT IT READS IS OF BULK AT MOST 1048576: true; the input reads as it did. -/
def fuzzyExactUptoRow : OpenClaim := { program := "ytfaoifggkfmokaadoor", sum := "64d95d022bba029e923bead4f874f8fc57cb6b06bdbcdd2457491a880a0ab6d8", func := "abecedary/abecedarylaw12.FuzzyExact", spec := "fuzzyExact", unfollowed := true, recurses := true, named := ["abecedary/letters.least"], plainKeys := false, apart := false, laid := [("abecedary/letters.least", laid_abecedary_letters_least)], narrowed := true }
def FuzzyExactUptoSaid : Prop := fuzzyExactUptoRow.holds Tryd.pinned (OpenSpec.upto fuzzyExactSpec)

/-- 'abecedarylaw12.FuzzyMerges', WHERE WHAT IT READS IS OF BULK AT MOST 1048576: true; the input reads as it did. -/
def fuzzyMergesUptoRow : OpenClaim := { program := "ytfaoifggkfmokaadoor", sum := "64d95d022bba029e923bead4f874f8fc57cb6b06bdbcdd2457491a880a0ab6d8", func := "abecedary/abecedarylaw12.FuzzyMerges", spec := "fuzzyMerges", inPlace := ["internal/bytealg.abigen_runtime_cmpstring"], unfollowed := true, recurses := true, named := ["abecedary/letters.least"], plainKeys := false, apart := false, laid := [("abecedary/letters.least", laid_abecedary_letters_least)], narrowed := true }
def FuzzyMergesUptoSaid : Prop := fuzzyMergesUptoRow.holds Tryd.pinned (OpenSpec.upto fuzzyMergesSpec)

/-- 'abecedarylaw12.FuzzyOver', WHERE WHAT IT READS IS OF BULK AT MOST 1048576: true; the input reads as it did. -/
def fuzzyOverUptoRow : OpenClaim := { program := "ytfaoifggkfmokaadoor", sum := "64d95d022bba029e923bead4f874f8fc57cb6b06bdbcdd2457491a880a0ab6d8", func := "abecedary/abecedarylaw12.FuzzyOver", spec := "fuzzyOver", inPlace := ["internal/bytealg.abigen_runtime_cmpstring"], unfollowed := true, recurses := true, named := ["abecedary/letters.least"], plainKeys := false, apart := false, laid := [("abecedary/letters.least", laid_abecedary_letters_least)], narrowed := true }
def FuzzyOverUptoSaid : Prop := fuzzyOverUptoRow.holds Tryd.pinned (OpenSpec.upto fuzzyOverSpec)

/-- 'abecedarylaw12.FuzzyNothing', WHERE WHAT IT READS IS OF BULK AT MOST 1048576: true; the input reads as it did. -/
def fuzzyNothingUptoRow : OpenClaim := { program := "ytfaoifggkfmokaadoor", sum := "64d95d022bba029e923bead4f874f8fc57cb6b06bdbcdd2457491a880a0ab6d8", func := "abecedary/abecedarylaw12.FuzzyNothing", spec := "fuzzyNothing", inPlace := ["internal/bytealg.abigen_runtime_cmpstring"], unfollowed := true, recurses := true, named := ["abecedary/letters.least"], plainKeys := false, apart := false, laid := [("abecedary/letters.least", laid_abecedary_letters_least)], narrowed := true }
def FuzzyNothingUptoSaid : Prop := fuzzyNothingUptoRow.holds Tryd.pinned (OpenSpec.upto fuzzyNothingSpec)

end Rows
end Go.Proofs.YtfaoifggkfmokaaDoor
