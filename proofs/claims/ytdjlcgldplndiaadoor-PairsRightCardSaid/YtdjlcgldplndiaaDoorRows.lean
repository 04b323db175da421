/-
  NARROWER THAN 'FOR EVERY INPUT', by the rows' own cells (each row's printed sentence says how): PairsRight: laid · PairsMerges: laid · PairsTwice: laid · PairsApart: laid · PairsNorm: laid · PairsFinds: laid · PairsDiffers: laid · PairsLeads: laid.
  DERIVED. THE GIVEN ROWS OF THIS SEAT. 8 by the template 'for every input the law returns true; each argument reads behind the call as it read before'; 0 by the template 'total and deterministic' (their statements: YtdjlcgldplndiaaDoorTotals.lean).
  GIVEN WITH THE SEED: the statements are not yours to turn. If you find one false, say at which input.
  Laid BY PROGRAM, IN A SANDBOX (cutbox-rows.mjs): the forced cells as the released guide's own fill.sh prints them over the translation cefb116f8fb24cbc… (all of the seat's roots in one cut). By AI agents, Wed Nov 11 2026. No macro, syntax, notation, axiom, sorry.
-/
import Derived.Test.YtdjlcgldplndiaaDoorChecked
import GoSem.Claim
import GoSem.ClaimJoined
import GoSem.ClaimMapViews
import Derived.JoinedTies
import Derived.KernelRfl
namespace Go.Proofs.YtdjlcgldplndiaaDoor
/- THE CELL 'sum', in the pinned program and in every row, IS THE sha256 OF THE DUMP (.gsa) THAT YtdjlcgldplndiaaDoorProg.lean LOADS. Nothing in Lean hashes anything: it is a label: what it is worth is what the hold of that sum in a sandbox is worth. -/
noncomputable def Tryd.pinned : Pinned := { name := "ytdjlcgldplndiaadoor", sum := "cefb116f8fb24cbc4e589f26a2b5f9a1ff56d1f05a645d54ef426be46d370a3e", checked := Tryd.checked }
namespace Rows
def none {H : Type} : Left H := { results := [], args := [] }

/- WHAT THE LISTED PACKAGE-LEVEL VARIABLES READ AS WHEN THE CALL BEGINS. Each datum BY PROGRAM (the guide's laid-datum.mjs) off the statement by which the dump's own 'gosem.cut.vars' lays the variable. In a bare row this is a premise. The card (YtdjlcgldplndiaaDoorCards.lean) ties it to the program's text. -/
def laid_abecedary_letters_least {H : Type} : DataW H := .agg [.lit (.int .i32 0), .lit (.int .i32 0), .lit (.int .i32 128), .lit (.int .i32 2048), .lit (.int .i32 65536)]

/-- 'abecedarylaw06.PairsRight': WHATEVER THE INPUT: true; the input reads as it did. -/
def pairsRightSpec : ChangeSpec := { name := "pairsRight", fn := fun _ => fun
  | [d] => { results := [.lit (.bool true)], args := [d] }
  | _ => none }
def pairsRightRow : OpenClaim := { program := "ytdjlcgldplndiaadoor", sum := "cefb116f8fb24cbc4e589f26a2b5f9a1ff56d1f05a645d54ef426be46d370a3e", func := "abecedary/abecedarylaw06.PairsRight", spec := "pairsRight", inPlace := ["internal/bytealg.abigen_runtime_cmpstring"], unfollowed := true, recurses := true, named := ["abecedary/letters.least"], apart := false, laid := [("abecedary/letters.least", laid_abecedary_letters_least)] }
def PairsRightSaid : Prop := pairsRightRow.holds Tryd.pinned (OpenSpec.ofChange pairsRightSpec)

/-- ITS FALSE NEIGHBOUR: 'it returns false'. Refute it at one input. -/
def pairsRightWrong : ChangeSpec := { name := "pairsRight", fn := fun _ => fun
  | [d] => { results := [.lit (.bool false)], args := [d] }
  | _ => none }
def PairsRightWrongFalsely : Prop := pairsRightRow.holds Tryd.pinned (OpenSpec.ofChange pairsRightWrong)

/-- 'abecedarylaw06.PairsMerges': WHATEVER THE INPUT: true; the input reads as it did. -/
def pairsMergesSpec : ChangeSpec := { name := "pairsMerges", fn := fun _ => fun
  | [d1, d2] => { results := [.lit (.bool true)], args := [d1, d2] }
  | _ => none }
def pairsMergesRow : OpenClaim := { program := "ytdjlcgldplndiaadoor", sum := "cefb116f8fb24cbc4e589f26a2b5f9a1ff56d1f05a645d54ef426be46d370a3e", func := "abecedary/abecedarylaw06.PairsMerges", spec := "pairsMerges", inPlace := ["internal/bytealg.abigen_runtime_cmpstring"], unfollowed := true, recurses := true, named := ["abecedary/letters.least"], apart := false, laid := [("abecedary/letters.least", laid_abecedary_letters_least)] }
def PairsMergesSaid : Prop := pairsMergesRow.holds Tryd.pinned (OpenSpec.ofChange pairsMergesSpec)

/-- ITS FALSE NEIGHBOUR: 'it returns false'. Refute it at one input. -/
def pairsMergesWrong : ChangeSpec := { name := "pairsMerges", fn := fun _ => fun
  | [d1, d2] => { results := [.lit (.bool false)], args := [d1, d2] }
  | _ => none }
def PairsMergesWrongFalsely : Prop := pairsMergesRow.holds Tryd.pinned (OpenSpec.ofChange pairsMergesWrong)

/-- 'abecedarylaw06.PairsTwice': WHATEVER THE INPUT: true; the input reads as it did. -/
def pairsTwiceSpec : ChangeSpec := { name := "pairsTwice", fn := fun _ => fun
  | [d1, d2, d3] => { results := [.lit (.bool true)], args := [d1, d2, d3] }
  | _ => none }
def pairsTwiceRow : OpenClaim := { program := "ytdjlcgldplndiaadoor", sum := "cefb116f8fb24cbc4e589f26a2b5f9a1ff56d1f05a645d54ef426be46d370a3e", func := "abecedary/abecedarylaw06.PairsTwice", spec := "pairsTwice", inPlace := ["internal/bytealg.abigen_runtime_cmpstring"], unfollowed := true, recurses := true, named := ["abecedary/letters.least"], apart := false, laid := [("abecedary/letters.least", laid_abecedary_letters_least)] }
def PairsTwiceSaid : Prop := pairsTwiceRow.holds Tryd.pinned (OpenSpec.ofChange pairsTwiceSpec)

/-- ITS FALSE NEIGHBOUR: 'it returns false'. Refute it at one input. -/
def pairsTwiceWrong : ChangeSpec := { name := "pairsTwice", fn := fun _ => fun
  | [d1, d2, d3] => { results := [.lit (.bool false)], args := [d1, d2, d3] }
  | _ => none }
def PairsTwiceWrongFalsely : Prop := pairsTwiceRow.holds Tryd.pinned (OpenSpec.ofChange pairsTwiceWrong)

/-- 'abecedarylaw06.PairsApart': WHATEVER THE INPUT: true; the input reads as it did. -/
def pairsApartSpec : ChangeSpec := { name := "pairsApart", fn := fun _ => fun
  | [d1, d2, d3] => { results := [.lit (.bool true)], args := [d1, d2, d3] }
  | _ => none }
def pairsApartRow : OpenClaim := { program := "ytdjlcgldplndiaadoor", sum := "cefb116f8fb24cbc4e589f26a2b5f9a1ff56d1f05a645d54ef426be46d370a3e", func := "abecedary/abecedarylaw06.PairsApart", spec := "pairsApart", inPlace := ["internal/bytealg.abigen_runtime_cmpstring"], unfollowed := true, recurses := true, named := ["abecedary/letters.least"], apart := false, laid := [("abecedary/letters.least", laid_abecedary_letters_least)] }
def PairsApartSaid : Prop := pairsApartRow.holds Tryd.pinned (OpenSpec.ofChange pairsApartSpec)

/-- ITS FALSE NEIGHBOUR: 'it returns false'. Refute it at one input. -/
def pairsApartWrong : ChangeSpec := { name := "pairsApart", fn := fun _ => fun
  | [d1, d2, d3] => { results := [.lit (.bool false)], args := [d1, d2, d3] }
  | _ => none }
def PairsApartWrongFalsely : Prop := pairsApartRow.holds Tryd.pinned (OpenSpec.ofChange pairsApartWrong)

/-- 'abecedarylaw06.PairsNorm': WHATEVER THE INPUT: true; the input reads as it did. -/
def pairsNormSpec : ChangeSpec := { name := "pairsNorm", fn := fun _ => fun
  | [d] => { results := [.lit (.bool true)], args := [d] }
  | _ => none }
def pairsNormRow : OpenClaim := { program := "ytdjlcgldplndiaadoor", sum := "cefb116f8fb24cbc4e589f26a2b5f9a1ff56d1f05a645d54ef426be46d370a3e", func := "abecedary/abecedarylaw06.PairsNorm", spec := "pairsNorm", inPlace := ["internal/bytealg.abigen_runtime_cmpstring"], unfollowed := true, recurses := true, named := ["abecedary/letters.least"], apart := false, laid := [("abecedary/letters.least", laid_abecedary_letters_least)] }
def PairsNormSaid : Prop := pairsNormRow.holds Tryd.pinned (OpenSpec.ofChange pairsNormSpec)

/-- ITS FALSE NEIGHBOUR: 'it returns false'. Refute it at one input. -/
def pairsNormWrong : ChangeSpec := { name := "pairsNorm", fn := fun _ => fun
  | [d] => { results := [.lit (.bool false)], args := [d] }
  | _ => none }
def PairsNormWrongFalsely : Prop := pairsNormRow.holds Tryd.pinned (OpenSpec.ofChange pairsNormWrong)

/-- 'abecedarylaw06.PairsFinds': WHATEVER THE INPUT: true; the input reads as it did. -/
def pairsFindsSpec : ChangeSpec := { name := "pairsFinds", fn := fun _ => fun
  | [d1, d2] => { results := [.lit (.bool true)], args := [d1, d2] }
  | _ => none }
def pairsFindsRow : OpenClaim := { program := "ytdjlcgldplndiaadoor", sum := "cefb116f8fb24cbc4e589f26a2b5f9a1ff56d1f05a645d54ef426be46d370a3e", func := "abecedary/abecedarylaw06.PairsFinds", spec := "pairsFinds", inPlace := ["internal/bytealg.abigen_runtime_cmpstring"], unfollowed := true, recurses := true, named := ["abecedary/letters.least"], apart := false, laid := [("abecedary/letters.least", laid_abecedary_letters_least)] }
def PairsFindsSaid : Prop := pairsFindsRow.holds Tryd.pinned (OpenSpec.ofChange pairsFindsSpec)

/-- ITS FALSE NEIGHBOUR: 'it returns false'. Refute it at one input. -/
def pairsFindsWrong : ChangeSpec := { name := "pairsFinds", fn := fun _ => fun
  | [d1, d2] => { results := [.lit (.bool false)], args := [d1, d2] }
  | _ => none }
def PairsFindsWrongFalsely : Prop := pairsFindsRow.holds Tryd.pinned (OpenSpec.ofChange pairsFindsWrong)

/-- 'abecedarylaw06.PairsDiffers': WHATEVER THE INPUT: true; the input reads as it did. -/
def pairsDiffersSpec : ChangeSpec := { name := "pairsDiffers", fn := fun _ => fun
  | [d1, d2] => { results := [.lit (.bool true)], args := [d1, d2] }
  | _ => none }
def pairsDiffersRow : OpenClaim := { program := "ytdjlcgldplndiaadoor", sum := "cefb116f8fb24cbc4e589f26a2b5f9a1ff56d1f05a645d54ef426be46d370a3e", func := "abecedary/abecedarylaw06.PairsDiffers", spec := "pairsDiffers", inPlace := ["internal/bytealg.abigen_runtime_cmpstring"], unfollowed := true, recurses := true, named := ["abecedary/letters.least"], apart := false, laid := [("abecedary/letters.least", laid_abecedary_letters_least)] }
def PairsDiffersSaid : Prop := pairsDiffersRow.holds Tryd.pinned (OpenSpec.ofChange pairsDiffersSpec)

/-- ITS FALSE NEIGHBOUR: 'it returns false'. Refute it at one input. -/
def pairsDiffersWrong : ChangeSpec := { name := "pairsDiffers", fn := fun _ => fun
  | [d1, d2] => { results := [.lit (.bool false)], args := [d1, d2] }
  | _ => none }
def PairsDiffersWrongFalsely : Prop := pairsDiffersRow.holds Tryd.pinned (OpenSpec.ofChange pairsDiffersWrong)

/-- 'abecedarylaw06.PairsLeads': WHATEVER THE INPUT: true; the input reads as it did. -/
def pairsLeadsSpec : ChangeSpec := { name := "pairsLeads", fn := fun _ => fun
  | [d1, d2] => { results := [.lit (.bool true)], args := [d1, d2] }
  | _ => none }
def pairsLeadsRow : OpenClaim := { program := "ytdjlcgldplndiaadoor", sum := "cefb116f8fb24cbc4e589f26a2b5f9a1ff56d1f05a645d54ef426be46d370a3e", func := "abecedary/abecedarylaw06.PairsLeads", spec := "pairsLeads", inPlace := ["internal/bytealg.abigen_runtime_cmpstring"], unfollowed := true, recurses := true, named := ["abecedary/letters.least"], apart := false, laid := [("abecedary/letters.least", laid_abecedary_letters_least)] }
def PairsLeadsSaid : Prop := pairsLeadsRow.holds Tryd.pinned (OpenSpec.ofChange pairsLeadsSpec)

/-- ITS FALSE NEIGHBOUR: 'it returns false'. Refute it at one input. -/
def pairsLeadsWrong : ChangeSpec := { name := "pairsLeads", fn := fun _ => fun
  | [d1, d2] => { results := [.lit (.bool false)], args := [d1, d2] }
  | _ => none }
def PairsLeadsWrongFalsely : Prop := pairsLeadsRow.holds Tryd.pinned (OpenSpec.ofChange pairsLeadsWrong)

/- THE SECOND FORM. 'bulk': how many values and letters a reading holds, each counted each time it is reached (what is shared counts as often as it is met; a slice's spare places count too). A statement '..UptoSaid' is the law's where the arguments, and the package variables that the reading takes, are together of bulk at most 1048576: NARROWER than '..Said'. Prove '..Said' where nothing that the law and all that it calls make is longer than what came in: it says more and counts as full. Else prove '..UptoSaid'. A law counts once. -/
mutual
def uptoBulk {H : Type} : DataW H → Nat
  | .lit (.string bytes) => bytes.length + 1
  | .lit _ => 1
  | .nil => 1
  | .ptr d => uptoBulk d + 1
  | .slice elems spare => uptoBulkAll elems + uptoBulkAll spare + 1
  | .agg parts => uptoBulkAll parts + 1
  | .iface _ d => uptoBulk d + 1
  | .map entries => uptoBulkEntries entries + 1
  | .held _ => 1
def uptoBulkAll {H : Type} : List (DataW H) → Nat
  | [] => 0
  | d :: r => uptoBulk d + uptoBulkAll r
def uptoBulkEntries {H : Type} : List (Lit × DataW H) → Nat
  | [] => 0
  | x :: r => uptoBulkEntry x + uptoBulkEntries r
def uptoBulkEntry {H : Type} : Lit × DataW H → Nat
  | (.string bytes, d) => bytes.length + uptoBulk d + 1
  | (_, d) => uptoBulk d + 1
 end
def uptoSmall : (H : Type) → List (DataW H) → Bool := fun _ ds => decide (uptoBulkAll ds ≤ 1048576)
def OpenSpec.upto (s : _root_.Go.ChangeSpec) : _root_.Go.OpenSpec := { _root_.Go.OpenSpec.ofChange s with cond := some uptoSmall }

/-- 'abecedarylaw06.PairsRight', WHERE WHAT IT READS IS OF BULK AT MOST 1048576: true; the input reads as it did. -/
def pairsRightUptoRow : OpenClaim := { program := "ytdjlcgldplndiaadoor", sum := "cefb116f8fb24cbc4e589f26a2b5f9a1ff56d1f05a645d54ef426be46d370a3e", func := "abecedary/abecedarylaw06.PairsRight", spec := "pairsRight", inPlace := ["internal/bytealg.abigen_runtime_cmpstring"], unfollowed := true, recurses := true, named := ["abecedary/letters.least"], apart := false, laid := [("abecedary/letters.least", laid_abecedary_letters_least)], narrowed := true }
def PairsRightUptoSaid : Prop := pairsRightUptoRow.holds Tryd.pinned (OpenSpec.upto pairsRightSpec)

/-- 'abecedarylaw06.PairsMerges', WHERE WHAT IT READS IS OF BULK AT MOST 1048576: true; the input reads as it did. -/
def pairsMergesUptoRow : OpenClaim := { program := "ytdjlcgldplndiaadoor", sum := "cefb116f8fb24cbc4e589f26a2b5f9a1ff56d1f05a645d54ef426be46d370a3e", func := "abecedary/abecedarylaw06.PairsMerges", spec := "pairsMerges", inPlace := ["internal/bytealg.abigen_runtime_cmpstring"], unfollowed := true, recurses := true, named := ["abecedary/letters.least"], apart := false, laid := [("abecedary/letters.least", laid_abecedary_letters_least)], narrowed := true }
def PairsMergesUptoSaid : Prop := pairsMergesUptoRow.holds Tryd.pinned (OpenSpec.upto pairsMergesSpec)

/-- 'abecedarylaw06.PairsTwice', WHERE WHAT IT READS IS OF BULK AT MOST 1048576: true; the input reads as it did. -/
def pairsTwiceUptoRow : OpenClaim := { program := "ytdjlcgldplndiaadoor", sum := "cefb116f8fb24cbc4e589f26a2b5f9a1ff56d1f05a645d54ef426be46d370a3e", func := "abecedary/abecedarylaw06.PairsTwice", spec := "pairsTwice", inPlace := ["internal/bytealg.abigen_runtime_cmpstring"], unfollowed := true, recurses := true, named := ["abecedary/letters.least"], apart := false, laid := [("abecedary/letters.least", laid_abecedary_letters_least)], narrowed := true }
def PairsTwiceUptoSaid : Prop := pairsTwiceUptoRow.holds Tryd.pinned (OpenSpec.upto pairsTwiceSpec)

/-- 'abecedarylaw06.PairsApart', WHERE WHAT IT READS IS OF BULK AT MOST 1048576: true; the input reads as it did. -/
def pairsApartUptoRow : OpenClaim := { program := "ytdjlcgldplndiaadoor", sum := "cefb116f8fb24cbc4e589f26a2b5f9a1ff56d1f05a645d54ef426be46d370a3e", func := "abecedary/abecedarylaw06.PairsApart", spec := "pairsApart", inPlace := ["internal/bytealg.abigen_runtime_cmpstring"], unfollowed := true, recurses := true, named := ["abecedary/letters.least"], apart := false, laid := [("abecedary/letters.least", laid_abecedary_letters_least)], narrowed := true }
def PairsApartUptoSaid : Prop := pairsApartUptoRow.holds Tryd.pinned (OpenSpec.upto pairsApartSpec)

/-- 'abecedarylaw06.PairsNorm', WHERE WHAT IT READS IS OF BULK AT MOST 1048576: true; the input reads as it did. -/
def pairsNormUptoRow : OpenClaim := { program := "ytdjlcgldplndiaadoor", sum := "cefb116f8fb24cbc4e589f26a2b5f9a1ff56d1f05a645d54ef426be46d370a3e", func := "abecedary/abecedarylaw06.PairsNorm", spec := "pairsNorm", inPlace := ["internal/bytealg.abigen_runtime_cmpstring"], unfollowed := true, recurses := true, named := ["abecedary/letters.least"], apart := false, laid := [("abecedary/letters.least", laid_abecedary_letters_least)], narrowed := true }
def PairsNormUptoSaid : Prop := pairsNormUptoRow.holds Tryd.pinned (OpenSpec.upto pairsNormSpec)

/-- 'abecedarylaw06.PairsFinds', WHERE WHAT IT READS IS OF BULK AT MOST 1048576: true; the input reads as it did. -/
def pairsFindsUptoRow : OpenClaim := { program := "ytdjlcgldplndiaadoor", sum := "cefb116f8fb24cbc4e589f26a2b5f9a1ff56d1f05a645d54ef426be46d370a3e", func := "abecedary/abecedarylaw06.PairsFinds", spec := "pairsFinds", inPlace := ["internal/bytealg.abigen_runtime_cmpstring"], unfollowed := true, recurses := true, named := ["abecedary/letters.least"], apart := false, laid := [("abecedary/letters.least", laid_abecedary_letters_least)], narrowed := true }
def PairsFindsUptoSaid : Prop := pairsFindsUptoRow.holds Tryd.pinned (OpenSpec.upto pairsFindsSpec)

/-- 'abecedarylaw06.PairsDiffers', WHERE WHAT IT READS IS OF BULK AT MOST 1048576: true; the input reads as it did. -/
def pairsDiffersUptoRow : OpenClaim := { program := "ytdjlcgldplndiaadoor", sum := "cefb116f8fb24cbc4e589f26a2b5f9a1ff56d1f05a645d54ef426be46d370a3e", func := "abecedary/abecedarylaw06.PairsDiffers", spec := "pairsDiffers", inPlace := ["internal/bytealg.abigen_runtime_cmpstring"], unfollowed := true, recurses := true, named := ["abecedary/letters.least"], apart := false, laid := [("abecedary/letters.least", laid_abecedary_letters_least)], narrowed := true }
def PairsDiffersUptoSaid : Prop := pairsDiffersUptoRow.holds Tryd.pinned (OpenSpec.upto pairsDiffersSpec)

/-- 'abecedarylaw06.PairsLeads', WHERE WHAT IT READS IS OF BULK AT MOST 1048576: true; the input reads as it did. -/
def pairsLeadsUptoRow : OpenClaim := { program := "ytdjlcgldplndiaadoor", sum := "cefb116f8fb24cbc4e589f26a2b5f9a1ff56d1f05a645d54ef426be46d370a3e", func := "abecedary/abecedarylaw06.PairsLeads", spec := "pairsLeads", inPlace := ["internal/bytealg.abigen_runtime_cmpstring"], unfollowed := true, recurses := true, named := ["abecedary/letters.least"], apart := false, laid := [("abecedary/letters.least", laid_abecedary_letters_least)], narrowed := true }
def PairsLeadsUptoSaid : Prop := pairsLeadsUptoRow.holds Tryd.pinned (OpenSpec.upto pairsLeadsSpec)

end Rows
end Go.Proofs.YtdjlcgldplndiaaDoor
