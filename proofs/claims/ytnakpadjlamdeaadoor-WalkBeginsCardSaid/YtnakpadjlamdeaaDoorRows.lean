/-
  NARROWER THAN 'FOR EVERY INPUT', by the rows' own cells (each row's printed sentence says how): WalkFinds: laid · WalkNumbers: laid · WalkRanks: laid · WalkStates: laid · WalkBegins: laid · WalkAll: laid · WalkKeeps: laid · WalkUnder: laid.
  DERIVED. THE GIVEN ROWS OF THIS SEAT. 8 by the template 'for every input the law returns true; each argument reads behind the call as it read before'; 0 by the template 'total and deterministic' (their statements: YtnakpadjlamdeaaDoorTotals.lean).
  GIVEN WITH THE SEED: the statements are not yours to turn. If you find one false, say at which input.
  Laid BY PROGRAM, IN A SANDBOX (cutbox-rows.mjs): the forced cells as the released guide's own fill.sh prints them over the translation 8bb86a51ad93f371… (all of the seat's roots in one cut). By AI agents, Wed Nov 11 2026. No macro, syntax, notation, axiom, sorry.
-/
import Derived.Test.YtnakpadjlamdeaaDoorChecked
import GoSem.Claim
import GoSem.ClaimJoined
import GoSem.ClaimMapViews
import Derived.JoinedTies
import Derived.KernelRfl
namespace Go.Proofs.YtnakpadjlamdeaaDoor
/- THE CELL 'sum', in the pinned program and in every row, IS THE sha256 OF THE DUMP (.gsa) THAT YtnakpadjlamdeaaDoorProg.lean LOADS. Nothing in Lean hashes anything: it is a label: what it is worth is what the hold of that sum in a sandbox is worth. -/
noncomputable def Tryd.pinned : Pinned := { name := "ytnakpadjlamdeaadoor", sum := "8bb86a51ad93f3718a1d02e7f82bb45d5ae138c2795e4fd0fb8adb4b6e3c6774", checked := Tryd.checked }
namespace Rows
def none {H : Type} : Left H := { results := [], args := [] }

/- WHAT THE LISTED PACKAGE-LEVEL VARIABLES READ AS WHEN THE CALL BEGINS. Each datum BY PROGRAM (the guide's laid-datum.mjs) off the statement by which the dump's own 'gosem.cut.vars' lays the variable. In a bare row this is a premise. The card (YtnakpadjlamdeaaDoorCards.lean) ties it to the program's text. -/
def laid_abecedary_letters_least {H : Type} : DataW H := .agg [.lit (.int .i32 0), .lit (.int .i32 0), .lit (.int .i32 128), .lit (.int .i32 2048), .lit (.int .i32 65536)]

/-- 'abecedarylaw09.WalkFinds': WHATEVER THE INPUT: true; the input reads as it did. -/
def walkFindsSpec : ChangeSpec := { name := "walkFinds", fn := fun _ => fun
  | [d1, d2] => { results := [.lit (.bool true)], args := [d1, d2] }
  | _ => none }
def walkFindsRow : OpenClaim := { program := "ytnakpadjlamdeaadoor", sum := "8bb86a51ad93f3718a1d02e7f82bb45d5ae138c2795e4fd0fb8adb4b6e3c6774", func := "abecedary/abecedarylaw09.WalkFinds", spec := "walkFinds", unfollowed := true, recurses := true, named := ["abecedary/letters.least"], plainKeys := false, apart := false, laid := [("abecedary/letters.least", laid_abecedary_letters_least)] }
def WalkFindsSaid : Prop := walkFindsRow.holds Tryd.pinned (OpenSpec.ofChange walkFindsSpec)

/-- ITS FALSE NEIGHBOUR: 'it returns false'. Refute it at one input. -/
def walkFindsWrong : ChangeSpec := { name := "walkFinds", fn := fun _ => fun
  | [d1, d2] => { results := [.lit (.bool false)], args := [d1, d2] }
  | _ => none }
def WalkFindsWrongFalsely : Prop := walkFindsRow.holds Tryd.pinned (OpenSpec.ofChange walkFindsWrong)

/-- 'abecedarylaw09.WalkNumbers': WHATEVER THE INPUT: true; the input reads as it did. -/
def walkNumbersSpec : ChangeSpec := { name := "walkNumbers", fn := fun _ => fun
  | [d1, d2] => { results := [.lit (.bool true)], args := [d1, d2] }
  | _ => none }
def walkNumbersRow : OpenClaim := { program := "ytnakpadjlamdeaadoor", sum := "8bb86a51ad93f3718a1d02e7f82bb45d5ae138c2795e4fd0fb8adb4b6e3c6774", func := "abecedary/abecedarylaw09.WalkNumbers", spec := "walkNumbers", unfollowed := true, recurses := true, named := ["abecedary/letters.least"], plainKeys := false, apart := false, laid := [("abecedary/letters.least", laid_abecedary_letters_least)] }
def WalkNumbersSaid : Prop := walkNumbersRow.holds Tryd.pinned (OpenSpec.ofChange walkNumbersSpec)

/-- ITS FALSE NEIGHBOUR: 'it returns false'. Refute it at one input. -/
def walkNumbersWrong : ChangeSpec := { name := "walkNumbers", fn := fun _ => fun
  | [d1, d2] => { results := [.lit (.bool false)], args := [d1, d2] }
  | _ => none }
def WalkNumbersWrongFalsely : Prop := walkNumbersRow.holds Tryd.pinned (OpenSpec.ofChange walkNumbersWrong)

/-- 'abecedarylaw09.WalkRanks': WHATEVER THE INPUT: true; the input reads as it did. -/
def walkRanksSpec : ChangeSpec := { name := "walkRanks", fn := fun _ => fun
  | [d1, d2] => { results := [.lit (.bool true)], args := [d1, d2] }
  | _ => none }
def walkRanksRow : OpenClaim := { program := "ytnakpadjlamdeaadoor", sum := "8bb86a51ad93f3718a1d02e7f82bb45d5ae138c2795e4fd0fb8adb4b6e3c6774", func := "abecedary/abecedarylaw09.WalkRanks", spec := "walkRanks", unfollowed := true, recurses := true, named := ["abecedary/letters.least"], plainKeys := false, apart := false, laid := [("abecedary/letters.least", laid_abecedary_letters_least)] }
def WalkRanksSaid : Prop := walkRanksRow.holds Tryd.pinned (OpenSpec.ofChange walkRanksSpec)

/-- ITS FALSE NEIGHBOUR: 'it returns false'. Refute it at one input. -/
def walkRanksWrong : ChangeSpec := { name := "walkRanks", fn := fun _ => fun
  | [d1, d2] => { results := [.lit (.bool false)], args := [d1, d2] }
  | _ => none }
def WalkRanksWrongFalsely : Prop := walkRanksRow.holds Tryd.pinned (OpenSpec.ofChange walkRanksWrong)

/-- 'abecedarylaw09.WalkStates': WHATEVER THE INPUT: true; the input reads as it did. -/
def walkStatesSpec : ChangeSpec := { name := "walkStates", fn := fun _ => fun
  | [d1, d2] => { results := [.lit (.bool true)], args := [d1, d2] }
  | _ => none }
def walkStatesRow : OpenClaim := { program := "ytnakpadjlamdeaadoor", sum := "8bb86a51ad93f3718a1d02e7f82bb45d5ae138c2795e4fd0fb8adb4b6e3c6774", func := "abecedary/abecedarylaw09.WalkStates", spec := "walkStates", unfollowed := true, recurses := true, named := ["abecedary/letters.least"], plainKeys := false, apart := false, laid := [("abecedary/letters.least", laid_abecedary_letters_least)] }
def WalkStatesSaid : Prop := walkStatesRow.holds Tryd.pinned (OpenSpec.ofChange walkStatesSpec)

/-- ITS FALSE NEIGHBOUR: 'it returns false'. Refute it at one input. -/
def walkStatesWrong : ChangeSpec := { name := "walkStates", fn := fun _ => fun
  | [d1, d2] => { results := [.lit (.bool false)], args := [d1, d2] }
  | _ => none }
def WalkStatesWrongFalsely : Prop := walkStatesRow.holds Tryd.pinned (OpenSpec.ofChange walkStatesWrong)

/-- 'abecedarylaw09.WalkBegins': WHATEVER THE INPUT: true; the input reads as it did. -/
def walkBeginsSpec : ChangeSpec := { name := "walkBegins", fn := fun _ => fun
  | [d] => { results := [.lit (.bool true)], args := [d] }
  | _ => none }
def walkBeginsRow : OpenClaim := { program := "ytnakpadjlamdeaadoor", sum := "8bb86a51ad93f3718a1d02e7f82bb45d5ae138c2795e4fd0fb8adb4b6e3c6774", func := "abecedary/abecedarylaw09.WalkBegins", spec := "walkBegins", unfollowed := true, recurses := true, named := ["abecedary/letters.least"], plainKeys := false, apart := false, laid := [("abecedary/letters.least", laid_abecedary_letters_least)] }
def WalkBeginsSaid : Prop := walkBeginsRow.holds Tryd.pinned (OpenSpec.ofChange walkBeginsSpec)

/-- ITS FALSE NEIGHBOUR: 'it returns false'. Refute it at one input. -/
def walkBeginsWrong : ChangeSpec := { name := "walkBegins", fn := fun _ => fun
  | [d] => { results := [.lit (.bool false)], args := [d] }
  | _ => none }
def WalkBeginsWrongFalsely : Prop := walkBeginsRow.holds Tryd.pinned (OpenSpec.ofChange walkBeginsWrong)

/-- 'abecedarylaw09.WalkAll': WHATEVER THE INPUT: true; the input reads as it did. -/
def walkAllSpec : ChangeSpec := { name := "walkAll", fn := fun _ => fun
  | [d1, d2] => { results := [.lit (.bool true)], args := [d1, d2] }
  | _ => none }
def walkAllRow : OpenClaim := { program := "ytnakpadjlamdeaadoor", sum := "8bb86a51ad93f3718a1d02e7f82bb45d5ae138c2795e4fd0fb8adb4b6e3c6774", func := "abecedary/abecedarylaw09.WalkAll", spec := "walkAll", unfollowed := true, recurses := true, named := ["abecedary/letters.least"], plainKeys := false, apart := false, laid := [("abecedary/letters.least", laid_abecedary_letters_least)] }
def WalkAllSaid : Prop := walkAllRow.holds Tryd.pinned (OpenSpec.ofChange walkAllSpec)

/-- ITS FALSE NEIGHBOUR: 'it returns false'. Refute it at one input. -/
def walkAllWrong : ChangeSpec := { name := "walkAll", fn := fun _ => fun
  | [d1, d2] => { results := [.lit (.bool false)], args := [d1, d2] }
  | _ => none }
def WalkAllWrongFalsely : Prop := walkAllRow.holds Tryd.pinned (OpenSpec.ofChange walkAllWrong)

/-- 'abecedarylaw09.WalkKeeps': WHATEVER THE INPUT: true; the input reads as it did. -/
def walkKeepsSpec : ChangeSpec := { name := "walkKeeps", fn := fun _ => fun
  | [d] => { results := [.lit (.bool true)], args := [d] }
  | _ => none }
def walkKeepsRow : OpenClaim := { program := "ytnakpadjlamdeaadoor", sum := "8bb86a51ad93f3718a1d02e7f82bb45d5ae138c2795e4fd0fb8adb4b6e3c6774", func := "abecedary/abecedarylaw09.WalkKeeps", spec := "walkKeeps", unfollowed := true, recurses := true, named := ["abecedary/letters.least"], plainKeys := false, apart := false, laid := [("abecedary/letters.least", laid_abecedary_letters_least)] }
def WalkKeepsSaid : Prop := walkKeepsRow.holds Tryd.pinned (OpenSpec.ofChange walkKeepsSpec)

/-- ITS FALSE NEIGHBOUR: 'it returns false'. Refute it at one input. -/
def walkKeepsWrong : ChangeSpec := { name := "walkKeeps", fn := fun _ => fun
  | [d] => { results := [.lit (.bool false)], args := [d] }
  | _ => none }
def WalkKeepsWrongFalsely : Prop := walkKeepsRow.holds Tryd.pinned (OpenSpec.ofChange walkKeepsWrong)

/-- 'abecedarylaw09.WalkUnder': WHATEVER THE INPUT: true; the input reads as it did. -/
def walkUnderSpec : ChangeSpec := { name := "walkUnder", fn := fun _ => fun
  | [d1, d2] => { results := [.lit (.bool true)], args := [d1, d2] }
  | _ => none }
def walkUnderRow : OpenClaim := { program := "ytnakpadjlamdeaadoor", sum := "8bb86a51ad93f3718a1d02e7f82bb45d5ae138c2795e4fd0fb8adb4b6e3c6774", func := "abecedary/abecedarylaw09.WalkUnder", spec := "walkUnder", unfollowed := true, recurses := true, named := ["abecedary/letters.least"], plainKeys := false, apart := false, laid := [("abecedary/letters.least", laid_abecedary_letters_least)] }
def WalkUnderSaid : Prop := walkUnderRow.holds Tryd.pinned (OpenSpec.ofChange walkUnderSpec)

/-- ITS FALSE NEIGHBOUR: 'it returns false'. Refute it at one input. -/
def walkUnderWrong : ChangeSpec := { name := "walkUnder", fn := fun _ => fun
  | [d1, d2] => { results := [.lit (.bool false)], args := [d1, d2] }
  | _ => none }
def WalkUnderWrongFalsely : Prop := walkUnderRow.holds Tryd.pinned (OpenSpec.ofChange walkUnderWrong)

/- THE SECOND FORM. 'bulk': how many values and letters a reading holds, each counted each time it is reached (what is shared counts as often as it is met; a slice's spare places count too). A statement '..UptoSaid' is the law's where the arguments, and the package variables that the reading takes, are together of bulk at most 1048576: NARROWER than '..Said'. Prove '..Said' where nothing that the law and all that it calls make is longer than what came in: it says more and counts as full. Else prove '..UptoSaid'. A law counts once. -/
mutual
def uptoBulk {H : Type} : DataW H → Nat
  | .lit (.string bytes) => bytes.length + 1
  | .lit _ => 1
  | .nil => 1
  | .ptr d => uptoBulk d + 1
  | .slice elems spare => uptoBulkAll elems + uptoBulkAll spare + 1
  | .agg parts => uptoBulkAll parts + 1
  | .iface _ d => uptoBulk d + 1
  | .map entries => uptoBulkEntries entries + 1
  | .held _ => 1
def uptoBulkAll {H : Type} : List (DataW H) → Nat
  | [] => 0
  | d :: r => uptoBulk d + uptoBulkAll r
def uptoBulkEntries {H : Type} : List (Lit × DataW H) → Nat
  | [] => 0
  | x :: r => uptoBulkEntry x + uptoBulkEntries r
def uptoBulkEntry {H : Type} : Lit × DataW H → Nat
  | (.string bytes, d) => bytes.length + uptoBulk d + 1
  | (_, d) => uptoBulk d + 1
 end
def uptoSmall : (H : Type) → List (DataW H) → Bool := fun _ ds => decide (uptoBulkAll ds ≤ 1048576)
def OpenSpec.upto (s : _root_.Go.ChangeSpec) : _root_.Go.OpenSpec := { _root_.Go.OpenSpec.ofChange s with cond := some uptoSmall }

/-- 'abecedarylaw09.WalkFinds', WHERE WHAT IT READS IS OF BULK AT MOST 1048576: true; the input reads as it did. -/
def walkFindsUptoRow : OpenClaim := { program := "ytnakpadjlamdeaadoor", sum := "8bb86a51ad93f3718a1d02e7f82bb45d5ae138c2795e4fd0fb8adb4b6e3c6774", func := "abecedary/abecedarylaw09.WalkFinds", spec := "walkFinds", unfollowed := true, recurses := true, named := ["abecedary/letters.least"], plainKeys := false, apart := false, laid := [("abecedary/letters.least", laid_abecedary_letters_least)], narrowed := true }
def WalkFindsUptoSaid : Prop := walkFindsUptoRow.holds Tryd.pinned (OpenSpec.upto walkFindsSpec)

/-- 'abecedarylaw09.WalkNumbers', WHERE WHAT IT READS IS OF BULK AT MOST 1048576: true; the input reads as it did. -/
def walkNumbersUptoRow : OpenClaim := { program := "ytnakpadjlamdeaadoor", sum := "8bb86a51ad93f3718a1d02e7f82bb45d5ae138c2795e4fd0fb8adb4b6e3c6774", func := "abecedary/abecedarylaw09.WalkNumbers", spec := "walkNumbers", unfollowed := true, recurses := true, named := ["abecedary/letters.least"], plainKeys := false, apart := false, laid := [("abecedary/letters.least", laid_abecedary_letters_least)], narrowed := true }
def WalkNumbersUptoSaid : Prop := walkNumbersUptoRow.holds Tryd.pinned (OpenSpec.upto walkNumbersSpec)

/-- 'abecedarylaw09.WalkRanks', WHERE WHAT IT READS IS OF BULK AT MOST 1048576: true; the input reads as it did. -/
def walkRanksUptoRow : OpenClaim := { program := "ytnakpadjlamdeaadoor", sum := "8bb86a51ad93f3718a1d02e7f82bb45d5ae138c2795e4fd0fb8adb4b6e3c6774", func := "abecedary/abecedarylaw09.WalkRanks", spec := "walkRanks", unfollowed := true, recurses := true, named := ["abecedary/letters.least"], plainKeys := false, apart := false, laid := [("abecedary/letters.least", laid_abecedary_letters_least)], narrowed := true }
def WalkRanksUptoSaid : Prop := walkRanksUptoRow.holds Tryd.pinned (OpenSpec.upto walkRanksSpec)

/-- 'abecedarylaw09.WalkStates', WHERE WHAT IT READS IS OF BULK AT MOST 1048576: true; the input reads as it did. -/
def walkStatesUptoRow : OpenClaim := { program := "ytnakpadjlamdeaadoor", sum := "8bb86a51ad93f3718a1d02e7f82bb45d5ae138c2795e4fd0fb8adb4b6e3c6774", func := "abecedary/abecedarylaw09.WalkStates", spec := "walkStates", unfollowed := true, recurses := true, named := ["abecedary/letters.least"], plainKeys := false, apart := false, laid := [("abecedary/letters.least", laid_abecedary_letters_least)], narrowed := true }
def WalkStatesUptoSaid : Prop := walkStatesUptoRow.holds Tryd.pinned (OpenSpec.upto walkStatesSpec)

/-- 'abecedarylaw09.WalkBegins', WHERE WHAT IT READS IS OF BULK AT MOST 1048576: true; the input reads as it did. -/
def walkBeginsUptoRow : OpenClaim := { program := "ytnakpadjlamdeaadoor", sum := "8bb86a51ad93f3718a1d02e7f82bb45d5ae138c2795e4fd0fb8adb4b6e3c6774", func := "abecedary/abecedarylaw09.WalkBegins", spec := "walkBegins", unfollowed := true, recurses := true, named := ["abecedary/letters.least"], plainKeys := false, apart := false, laid := [("abecedary/letters.least", laid_abecedary_letters_least)], narrowed := true }
def WalkBeginsUptoSaid : Prop := walkBeginsUptoRow.holds Tryd.pinned (OpenSpec.upto walkBeginsSpec)

/-- 'abecedarylaw09.WalkAll', WHERE WHAT IT READS IS OF BULK AT MOST 1048576: true; the input reads as it did. -/
def walkAllUptoRow : OpenClaim := { program := "ytnakpadjlamdeaadoor", sum := "8bb86a51ad93f3718a1d02e7f82bb45d5ae138c2795e4fd0fb8adb4b6e3c6774", func := "abecedary/abecedarylaw09.WalkAll", spec := "walkAll", unfollowed := true, recurses := true, named := ["abecedary/letters.least"], plainKeys := false, apart := false, laid := [("abecedary/letters.least", laid_abecedary_letters_least)], narrowed := true }
def WalkAllUptoSaid : Prop := walkAllUptoRow.holds Tryd.pinned (OpenSpec.upto walkAllSpec)

/-- 'abecedarylaw09.WalkKeeps', WHERE WHAT IT READS IS OF BULK AT MOST 1048576: true; the input reads as it did. -/
def walkKeepsUptoRow : OpenClaim := { program := "ytnakpadjlamdeaadoor", sum := "8bb86a51ad93f3718a1d02e7f82bb45d5ae138c2795e4fd0fb8adb4b6e3c6774", func := "abecedary/abecedarylaw09.WalkKeeps", spec := "walkKeeps", unfollowed := true, recurses := true, named := ["abecedary/letters.least"], plainKeys := false, apart := false, laid := [("abecedary/letters.least", laid_abecedary_letters_least)], narrowed := true }
def WalkKeepsUptoSaid : Prop := walkKeepsUptoRow.holds Tryd.pinned (OpenSpec.upto walkKeepsSpec)

/-- 'abecedarylaw09.WalkUnder', WHERE WHAT IT READS IS OF BULK AT MOST 1048576: true; the input reads as it did. -/
def walkUnderUptoRow : OpenClaim := { program := "ytnakpadjlamdeaadoor", sum := "8bb86a51ad93f3718a1d02e7f82bb45d5ae138c2795e4fd0fb8adb4b6e3c6774", func := "abecedary/abecedarylaw09.WalkUnder", spec := "walkUnder", unfollowed := true, recurses := true, named := ["abecedary/letters.least"], plainKeys := false, apart := false, laid := [("abecedary/letters.least", laid_abecedary_letters_least)], narrowed := true }
def WalkUnderUptoSaid : Prop := walkUnderUptoRow.holds Tryd.pinned (OpenSpec.upto walkUnderSpec)

end Rows
end Go.Proofs.YtnakpadjlamdeaaDoor
