/-
  NARROWER THAN 'FOR EVERY INPUT', by the rows' own cells (each row's printed sentence says how): PackRight: laid · PackBuilt: laid · PackWrites: laid · PackUnlike: laid · PackReads: laid · PackBack: laid · PackAgain: laid · PackCuts: laid.
  DERIVED. THE GIVEN ROWS OF THIS SEAT. 8 by the template 'for every input the law returns true; each argument reads behind the call as it read before'; 0 by the template 'total and deterministic' (their statements: YtcmjohaohdgnjaaDoorTotals.lean).
  GIVEN WITH THE SEED: the statements are not yours to turn. If you find one false, say at which input.
  Laid BY PROGRAM, IN A SANDBOX (cutbox-rows.mjs): the forced cells as the released guide's own fill.sh prints them over the translation d323d474af59ce7e… (all of the seat's roots in one cut). By AI agents, Wed Nov 11 2026. No macro, syntax, notation, axiom, sorry.
-/
import Derived.Test.YtcmjohaohdgnjaaDoorChecked
import GoSem.Claim
import GoSem.ClaimJoined
import GoSem.ClaimMapViews
import Derived.JoinedTies
import Derived.KernelRfl
namespace Go.Proofs.YtcmjohaohdgnjaaDoor
/- THE CELL 'sum', in the pinned program and in every row, IS THE sha256 OF THE DUMP (.gsa) THAT YtcmjohaohdgnjaaDoorProg.lean LOADS. Nothing in Lean hashes anything: it is a label: what it is worth is what the hold of that sum in a sandbox is worth. -/
noncomputable def Tryd.pinned : Pinned := { name := "ytcmjohaohdgnjaadoor", sum := "d323d474af59ce7e93f53b27fa9dcbceb9fa3d74091adb5e5ac57581f9360cca", checked := Tryd.checked }
namespace Rows
def none {H : Type} : Left H := { results := [], args := [] }

/- WHAT THE LISTED PACKAGE-LEVEL VARIABLES READ AS WHEN THE CALL BEGINS. Each datum BY PROGRAM (the guide's laid-datum.mjs) off the statement by which the dump's own 'gosem.cut.vars' lays the variable. In a bare row this is a premise. The card (YtcmjohaohdgnjaaDoorCards.lean) ties it to the program's text. -/
def laid_abecedary_letters_least {H : Type} : DataW H := .agg [.lit (.int .i32 0), .lit (.int .i32 0), .lit (.int .i32 128), .lit (.int .i32 2048), .lit (.int .i32 65536)]

/-- 'abecedarylaw08.PackRight': WHATEVER THE INPUT: true; the input reads as it did. -/
def packRightSpec : ChangeSpec := { name := "packRight", fn := fun _ => fun
  | [d] => { results := [.lit (.bool true)], args := [d] }
  | _ => none }
def packRightRow : OpenClaim := { program := "ytcmjohaohdgnjaadoor", sum := "d323d474af59ce7e93f53b27fa9dcbceb9fa3d74091adb5e5ac57581f9360cca", func := "abecedary/abecedarylaw08.PackRight", spec := "packRight", unfollowed := true, recurses := true, named := ["abecedary/letters.least"], plainKeys := false, apart := false, laid := [("abecedary/letters.least", laid_abecedary_letters_least)] }
def PackRightSaid : Prop := packRightRow.holds Tryd.pinned (OpenSpec.ofChange packRightSpec)

/-- ITS FALSE NEIGHBOUR: 'it returns false'. Refute it at one input. -/
def packRightWrong : ChangeSpec := { name := "packRight", fn := fun _ => fun
  | [d] => { results := [.lit (.bool false)], args := [d] }
  | _ => none }
def PackRightWrongFalsely : Prop := packRightRow.holds Tryd.pinned (OpenSpec.ofChange packRightWrong)

/-- 'abecedarylaw08.PackBuilt': WHATEVER THE INPUT: true; the input reads as it did. -/
def packBuiltSpec : ChangeSpec := { name := "packBuilt", fn := fun _ => fun
  | [d] => { results := [.lit (.bool true)], args := [d] }
  | _ => none }
def packBuiltRow : OpenClaim := { program := "ytcmjohaohdgnjaadoor", sum := "d323d474af59ce7e93f53b27fa9dcbceb9fa3d74091adb5e5ac57581f9360cca", func := "abecedary/abecedarylaw08.PackBuilt", spec := "packBuilt", unfollowed := true, recurses := true, named := ["abecedary/letters.least"], plainKeys := false, apart := false, laid := [("abecedary/letters.least", laid_abecedary_letters_least)] }
def PackBuiltSaid : Prop := packBuiltRow.holds Tryd.pinned (OpenSpec.ofChange packBuiltSpec)

/-- ITS FALSE NEIGHBOUR: 'it returns false'. Refute it at one input. -/
def packBuiltWrong : ChangeSpec := { name := "packBuilt", fn := fun _ => fun
  | [d] => { results := [.lit (.bool false)], args := [d] }
  | _ => none }
def PackBuiltWrongFalsely : Prop := packBuiltRow.holds Tryd.pinned (OpenSpec.ofChange packBuiltWrong)

/-- 'abecedarylaw08.PackWrites': WHATEVER THE INPUT: true; the input reads as it did. -/
def packWritesSpec : ChangeSpec := { name := "packWrites", fn := fun _ => fun
  | [d] => { results := [.lit (.bool true)], args := [d] }
  | _ => none }
def packWritesRow : OpenClaim := { program := "ytcmjohaohdgnjaadoor", sum := "d323d474af59ce7e93f53b27fa9dcbceb9fa3d74091adb5e5ac57581f9360cca", func := "abecedary/abecedarylaw08.PackWrites", spec := "packWrites", unfollowed := true, recurses := true, named := ["abecedary/letters.least"], plainKeys := false, apart := false, laid := [("abecedary/letters.least", laid_abecedary_letters_least)] }
def PackWritesSaid : Prop := packWritesRow.holds Tryd.pinned (OpenSpec.ofChange packWritesSpec)

/-- ITS FALSE NEIGHBOUR: 'it returns false'. Refute it at one input. -/
def packWritesWrong : ChangeSpec := { name := "packWrites", fn := fun _ => fun
  | [d] => { results := [.lit (.bool false)], args := [d] }
  | _ => none }
def PackWritesWrongFalsely : Prop := packWritesRow.holds Tryd.pinned (OpenSpec.ofChange packWritesWrong)

/-- 'abecedarylaw08.PackUnlike': WHATEVER THE INPUT: true; the input reads as it did. -/
def packUnlikeSpec : ChangeSpec := { name := "packUnlike", fn := fun _ => fun
  | [d1, d2] => { results := [.lit (.bool true)], args := [d1, d2] }
  | _ => none }
def packUnlikeRow : OpenClaim := { program := "ytcmjohaohdgnjaadoor", sum := "d323d474af59ce7e93f53b27fa9dcbceb9fa3d74091adb5e5ac57581f9360cca", func := "abecedary/abecedarylaw08.PackUnlike", spec := "packUnlike", unfollowed := true, recurses := true, named := ["abecedary/letters.least"], plainKeys := false, apart := false, laid := [("abecedary/letters.least", laid_abecedary_letters_least)] }
def PackUnlikeSaid : Prop := packUnlikeRow.holds Tryd.pinned (OpenSpec.ofChange packUnlikeSpec)

/-- ITS FALSE NEIGHBOUR: 'it returns false'. Refute it at one input. -/
def packUnlikeWrong : ChangeSpec := { name := "packUnlike", fn := fun _ => fun
  | [d1, d2] => { results := [.lit (.bool false)], args := [d1, d2] }
  | _ => none }
def PackUnlikeWrongFalsely : Prop := packUnlikeRow.holds Tryd.pinned (OpenSpec.ofChange packUnlikeWrong)

/-- 'abecedarylaw08.PackReads': WHATEVER THE INPUT: true; the input reads as it did. -/
def packReadsSpec : ChangeSpec := { name := "packReads", fn := fun _ => fun
  | [d] => { results := [.lit (.bool true)], args := [d] }
  | _ => none }
def packReadsRow : OpenClaim := { program := "ytcmjohaohdgnjaadoor", sum := "d323d474af59ce7e93f53b27fa9dcbceb9fa3d74091adb5e5ac57581f9360cca", func := "abecedary/abecedarylaw08.PackReads", spec := "packReads", unfollowed := true, recurses := true, named := ["abecedary/letters.least"], plainKeys := false, apart := false, laid := [("abecedary/letters.least", laid_abecedary_letters_least)] }
def PackReadsSaid : Prop := packReadsRow.holds Tryd.pinned (OpenSpec.ofChange packReadsSpec)

/-- ITS FALSE NEIGHBOUR: 'it returns false'. Refute it at one input. -/
def packReadsWrong : ChangeSpec := { name := "packReads", fn := fun _ => fun
  | [d] => { results := [.lit (.bool false)], args := [d] }
  | _ => none }
def PackReadsWrongFalsely : Prop := packReadsRow.holds Tryd.pinned (OpenSpec.ofChange packReadsWrong)

/-- 'abecedarylaw08.PackBack': WHATEVER THE INPUT: true; the input reads as it did. -/
def packBackSpec : ChangeSpec := { name := "packBack", fn := fun _ => fun
  | [d] => { results := [.lit (.bool true)], args := [d] }
  | _ => none }
def packBackRow : OpenClaim := { program := "ytcmjohaohdgnjaadoor", sum := "d323d474af59ce7e93f53b27fa9dcbceb9fa3d74091adb5e5ac57581f9360cca", func := "abecedary/abecedarylaw08.PackBack", spec := "packBack", unfollowed := true, recurses := true, named := ["abecedary/letters.least"], plainKeys := false, apart := false, laid := [("abecedary/letters.least", laid_abecedary_letters_least)] }
def PackBackSaid : Prop := packBackRow.holds Tryd.pinned (OpenSpec.ofChange packBackSpec)

/-- ITS FALSE NEIGHBOUR: 'it returns false'. Refute it at one input. -/
def packBackWrong : ChangeSpec := { name := "packBack", fn := fun _ => fun
  | [d] => { results := [.lit (.bool false)], args := [d] }
  | _ => none }
def PackBackWrongFalsely : Prop := packBackRow.holds Tryd.pinned (OpenSpec.ofChange packBackWrong)

/-- 'abecedarylaw08.PackAgain': WHATEVER THE INPUT: true; the input reads as it did. -/
def packAgainSpec : ChangeSpec := { name := "packAgain", fn := fun _ => fun
  | [d] => { results := [.lit (.bool true)], args := [d] }
  | _ => none }
def packAgainRow : OpenClaim := { program := "ytcmjohaohdgnjaadoor", sum := "d323d474af59ce7e93f53b27fa9dcbceb9fa3d74091adb5e5ac57581f9360cca", func := "abecedary/abecedarylaw08.PackAgain", spec := "packAgain", unfollowed := true, recurses := true, named := ["abecedary/letters.least"], plainKeys := false, apart := false, laid := [("abecedary/letters.least", laid_abecedary_letters_least)] }
def PackAgainSaid : Prop := packAgainRow.holds Tryd.pinned (OpenSpec.ofChange packAgainSpec)

/-- ITS FALSE NEIGHBOUR: 'it returns false'. Refute it at one input. -/
def packAgainWrong : ChangeSpec := { name := "packAgain", fn := fun _ => fun
  | [d] => { results := [.lit (.bool false)], args := [d] }
  | _ => none }
def PackAgainWrongFalsely : Prop := packAgainRow.holds Tryd.pinned (OpenSpec.ofChange packAgainWrong)

/-- 'abecedarylaw08.PackCuts': WHATEVER THE INPUT: true; the input reads as it did. -/
def packCutsSpec : ChangeSpec := { name := "packCuts", fn := fun _ => fun
  | [d1, d2, d3] => { results := [.lit (.bool true)], args := [d1, d2, d3] }
  | _ => none }
def packCutsRow : OpenClaim := { program := "ytcmjohaohdgnjaadoor", sum := "d323d474af59ce7e93f53b27fa9dcbceb9fa3d74091adb5e5ac57581f9360cca", func := "abecedary/abecedarylaw08.PackCuts", spec := "packCuts", unfollowed := true, recurses := true, named := ["abecedary/letters.least"], plainKeys := false, apart := false, laid := [("abecedary/letters.least", laid_abecedary_letters_least)] }
def PackCutsSaid : Prop := packCutsRow.holds Tryd.pinned (OpenSpec.ofChange packCutsSpec)

/-- ITS FALSE NEIGHBOUR: 'it returns false'. Refute it at one input. -/
def packCutsWrong : ChangeSpec := { name := "packCuts", fn := fun _ => fun
  | [d1, d2, d3] => { results := [.lit (.bool false)], args := [d1, d2, d3] }
  | _ => none }
def PackCutsWrongFalsely : Prop := packCutsRow.holds Tryd.pinned (OpenSpec.ofChange packCutsWrong)

/- THE SECOND FORM. 'bulk': how many values and letters a reading holds, each counted each time it is reached (what is shared counts as often as it is met; a slice's spare places count too). A statement '..UptoSaid' is the law's where the arguments, and the package variables that the reading takes, are together of bulk at most 1048576: NARROWER than '..Said'. Prove '..Said' where nothing that the law and all that it calls make is longer than what came in: it says more and counts as full. Else prove '..UptoSaid'. A law counts once. -/
mutual
def uptoBulk {H : Type} : DataW H → Nat
  | .lit (.string bytes) => bytes.length + 1
  | .lit _ => 1
  | .nil => 1
  | .ptr d => uptoBulk d + 1
  | .slice elems spare => uptoBulkAll elems + uptoBulkAll spare + 1
  | .agg parts => uptoBulkAll parts + 1
  | .iface _ d => uptoBulk d + 1
  | .map entries => uptoBulkEntries entries + 1
  | .held _ => 1
def uptoBulkAll {H : Type} : List (DataW H) → Nat
  | [] => 0
  | d :: r => uptoBulk d + uptoBulkAll r
def uptoBulkEntries {H : Type} : List (Lit × DataW H) → Nat
  | [] => 0
  | x :: r => uptoBulkEntry x + uptoBulkEntries r
def uptoBulkEntry {H : Type} : Lit × DataW H → Nat
  | (.string bytes, d) => bytes.length + uptoBulk d + 1
  | (_, d) => uptoBulk d + 1
 end
def uptoSmall : (H : Type) → List (DataW H) → Bool := fun _ ds => decide (uptoBulkAll ds ≤ 1048576)
def OpenSpec.upto (s : _root_.Go.ChangeSpec) : _root_.Go.OpenSpec := { _root_.Go.OpenSpec.ofChange s with cond := some uptoSmall }

/-- 'abecedarylaw08.PackRight', WHERE WHAT IT READS IS OF BULK AT MOST 1048576: true; the input reads as it did. -/
def packRightUptoRow : OpenClaim := { program := "ytcmjohaohdgnjaadoor", sum := "d323d474af59ce7e93f53b27fa9dcbceb9fa3d74091adb5e5ac57581f9360cca", func := "abecedary/abecedarylaw08.PackRight", spec := "packRight", unfollowed := true, recurses := true, named := ["abecedary/letters.least"], plainKeys := false, apart := false, laid := [("abecedary/letters.least", laid_abecedary_letters_least)], narrowed := true }
def PackRightUptoSaid : Prop := packRightUptoRow.holds Tryd.pinned (OpenSpec.upto packRightSpec)

/-- 'abecedarylaw08.PackBuilt', WHERE WHAT IT READS IS OF BULK AT MOST 1048576: true; the input reads as it did. -/
def packBuiltUptoRow : OpenClaim := { program := "ytcmjohaohdgnjaadoor", sum := "d323d474af59ce7e93f53b27fa9dcbceb9fa3d74091adb5e5ac57581f9360cca", func := "abecedary/abecedarylaw08.PackBuilt", spec := "packBuilt", unfollowed := true, recurses := true, named := ["abecedary/letters.least"], plainKeys := false, apart := false, laid := [("abecedary/letters.least", laid_abecedary_letters_least)], narrowed := true }
def PackBuiltUptoSaid : Prop := packBuiltUptoRow.holds Tryd.pinned (OpenSpec.upto packBuiltSpec)

/-- 'abecedarylaw08.PackWrites', WHERE WHAT IT READS IS OF BULK AT MOST 1048576: true; the input reads as it did. -/
def packWritesUptoRow : OpenClaim := { program := "ytcmjohaohdgnjaadoor", sum := "d323d474af59ce7e93f53b27fa9dcbceb9fa3d74091adb5e5ac57581f9360cca", func := "abecedary/abecedarylaw08.PackWrites", spec := "packWrites", unfollowed := true, recurses := true, named := ["abecedary/letters.least"], plainKeys := false, apart := false, laid := [("abecedary/letters.least", laid_abecedary_letters_least)], narrowed := true }
def PackWritesUptoSaid : Prop := packWritesUptoRow.holds Tryd.pinned (OpenSpec.upto packWritesSpec)

/-- 'abecedarylaw08.PackUnlike', WHERE WHAT IT READS IS OF BULK AT MOST 1048576: true; the input reads as it did. -/
def packUnlikeUptoRow : OpenClaim := { program := "ytcmjohaohdgnjaadoor", sum := "d323d474af59ce7e93f53b27fa9dcbceb9fa3d74091adb5e5ac57581f9360cca", func := "abecedary/abecedarylaw08.PackUnlike", spec := "packUnlike", unfollowed := true, recurses := true, named := ["abecedary/letters.least"], plainKeys := false, apart := false, laid := [("abecedary/letters.least", laid_abecedary_letters_least)], narrowed := true }
def PackUnlikeUptoSaid : Prop := packUnlikeUptoRow.holds Tryd.pinned (OpenSpec.upto packUnlikeSpec)

/-- 'abecedarylaw08.PackReads', WHERE WHAT IT READS IS OF BULK AT MOST 1048576: true; the input reads as it did. -/
def packReadsUptoRow : OpenClaim := { program := "ytcmjohaohdgnjaadoor", sum := "d323d474af59ce7e93f53b27fa9dcbceb9fa3d74091adb5e5ac57581f9360cca", func := "abecedary/abecedarylaw08.PackReads", spec := "packReads", unfollowed := true, recurses := true, named := ["abecedary/letters.least"], plainKeys := false, apart := false, laid := [("abecedary/letters.least", laid_abecedary_letters_least)], narrowed := true }
def PackReadsUptoSaid : Prop := packReadsUptoRow.holds Tryd.pinned (OpenSpec.upto packReadsSpec)

/-- 'abecedarylaw08.PackBack', WHERE WHAT IT READS IS OF BULK AT MOST 1048576: true; the input reads as it did. -/
def packBackUptoRow : OpenClaim := { program := "ytcmjohaohdgnjaadoor", sum := "d323d474af59ce7e93f53b27fa9dcbceb9fa3d74091adb5e5ac57581f9360cca", func := "abecedary/abecedarylaw08.PackBack", spec := "packBack", unfollowed := true, recurses := true, named := ["abecedary/letters.least"], plainKeys := false, apart := false, laid := [("abecedary/letters.least", laid_abecedary_letters_least)], narrowed := true }
def PackBackUptoSaid : Prop := packBackUptoRow.holds Tryd.pinned (OpenSpec.upto packBackSpec)

/-- 'abecedarylaw08.PackAgain', WHERE WHAT IT READS IS OF BULK AT MOST 1048576: true; the input reads as it did. -/
def packAgainUptoRow : OpenClaim := { program := "ytcmjohaohdgnjaadoor", sum := "d323d474af59ce7e93f53b27fa9dcbceb9fa3d74091adb5e5ac57581f9360cca", func := "abecedary/abecedarylaw08.PackAgain", spec := "packAgain", unfollowed := true, recurses := true, named := ["abecedary/letters.least"], plainKeys := false, apart := false, laid := [("abecedary/letters.least", laid_abecedary_letters_least)], narrowed := true }
def PackAgainUptoSaid : Prop := packAgainUptoRow.holds Tryd.pinned (OpenSpec.upto packAgainSpec)

/-- 'abecedarylaw08.PackCuts', WHERE WHAT IT READS IS OF BULK AT MOST 1048576: true; the input reads as it did. -/
def packCutsUptoRow : OpenClaim := { program := "ytcmjohaohdgnjaadoor", sum := "d323d474af59ce7e93f53b27fa9dcbceb9fa3d74091adb5e5ac57581f9360cca", func := "abecedary/abecedarylaw08.PackCuts", spec := "packCuts", unfollowed := true, recurses := true, named := ["abecedary/letters.least"], plainKeys := false, apart := false, laid := [("abecedary/letters.least", laid_abecedary_letters_least)], narrowed := true }
def PackCutsUptoSaid : Prop := packCutsUptoRow.holds Tryd.pinned (OpenSpec.upto packCutsSpec)

end Rows
end Go.Proofs.YtcmjohaohdgnjaaDoor
