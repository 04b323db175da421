/-
  NARROWER THAN 'FOR EVERY INPUT', by the rows' own cells (each row's printed sentence says how): AbecedaryBest: laid · AbecedaryShips: laid · StateImages: laid · StateLoads: laid · StateBack: laid · StateSuggests: laid.
  DERIVED. THE GIVEN ROWS OF THIS SEAT. 6 by the template 'for every input the law returns true; each argument reads behind the call as it read before'; 0 by the template 'total and deterministic' (their statements: YthockgmbooefpaaGreatDoorTotals.lean).
  GIVEN WITH THE SEED: the statements are not yours to turn. If you find one false, say at which input.
  Laid BY PROGRAM, IN A SANDBOX (cutbox-rows.mjs): the forced cells as the released guide's own fill.sh prints them over the translation a46a1547d98c028e… (all of the seat's roots in one cut). By AI agents, Wed Nov 11 2026. No macro, syntax, notation, axiom, sorry.
-/
import Derived.Test.YthockgmbooefpaaGreatDoorChecked
import GoSem.Claim
import GoSem.ClaimJoined
import GoSem.ClaimMapViews
import Derived.JoinedTies
import Derived.KernelRfl
namespace Go.Proofs.YthockgmbooefpaaGreatDoor
/- THE CELL 'sum', in the pinned program and in every row, IS THE sha256 OF THE DUMP (.gsa) THAT YthockgmbooefpaaGreatDoorProg.lean LOADS. Nothing in Lean hashes anything: it is a label: what it is worth is what the hold of that sum in a sandbox is worth. -/
noncomputable def Tryz.pinned : Pinned := { name := "ythockgmbooefpaagreatdoor", sum := "a46a1547d98c028e502ff68f9f5038bd07c1d5292bc84ae3378c118a6a7e96f5", checked := Tryz.checked }
namespace Rows
def none {H : Type} : Left H := { results := [], args := [] }

/- WHAT THE LISTED PACKAGE-LEVEL VARIABLES READ AS WHEN THE CALL BEGINS. Each datum BY PROGRAM (the guide's laid-datum.mjs) off the statement by which the dump's own 'gosem.cut.vars' lays the variable. In a bare row this is a premise. The card (YthockgmbooefpaaGreatDoorCards.lean) ties it to the program's text. -/
def laid_abecedary_letters_least {H : Type} : DataW H := .agg [.lit (.int .i32 0), .lit (.int .i32 0), .lit (.int .i32 128), .lit (.int .i32 2048), .lit (.int .i32 65536)]

/-- 'abecedarytop.AbecedaryBest': WHATEVER THE INPUT: true; the input reads as it did. -/
def abecedaryBestSpec : ChangeSpec := { name := "abecedaryBest", fn := fun _ => fun
  | [d1, d2] => { results := [.lit (.bool true)], args := [d1, d2] }
  | _ => none }
def abecedaryBestRow : OpenClaim := { program := "ythockgmbooefpaagreatdoor", sum := "a46a1547d98c028e502ff68f9f5038bd07c1d5292bc84ae3378c118a6a7e96f5", func := "abecedary/abecedarytop.AbecedaryBest", spec := "abecedaryBest", inPlace := ["internal/bytealg.abigen_runtime_cmpstring"], unfollowed := true, recurses := true, named := ["abecedary/letters.least"], plainKeys := false, apart := false, laid := [("abecedary/letters.least", laid_abecedary_letters_least)] }
def AbecedaryBestSaid : Prop := abecedaryBestRow.holds Tryz.pinned (OpenSpec.ofChange abecedaryBestSpec)

/-- ITS FALSE NEIGHBOUR: 'it returns false'. Refute it at one input. -/
def abecedaryBestWrong : ChangeSpec := { name := "abecedaryBest", fn := fun _ => fun
  | [d1, d2] => { results := [.lit (.bool false)], args := [d1, d2] }
  | _ => none }
def AbecedaryBestWrongFalsely : Prop := abecedaryBestRow.holds Tryz.pinned (OpenSpec.ofChange abecedaryBestWrong)

/-- 'abecedarytop.AbecedaryShips': WHATEVER THE INPUT: true; the input reads as it did. -/
def abecedaryShipsSpec : ChangeSpec := { name := "abecedaryShips", fn := fun _ => fun
  | [d1, d2, d3] => { results := [.lit (.bool true)], args := [d1, d2, d3] }
  | _ => none }
def abecedaryShipsRow : OpenClaim := { program := "ythockgmbooefpaagreatdoor", sum := "a46a1547d98c028e502ff68f9f5038bd07c1d5292bc84ae3378c118a6a7e96f5", func := "abecedary/abecedarytop.AbecedaryShips", spec := "abecedaryShips", inPlace := ["internal/bytealg.abigen_runtime_cmpstring"], unfollowed := true, recurses := true, named := ["abecedary/letters.least"], plainKeys := false, apart := false, laid := [("abecedary/letters.least", laid_abecedary_letters_least)] }
def AbecedaryShipsSaid : Prop := abecedaryShipsRow.holds Tryz.pinned (OpenSpec.ofChange abecedaryShipsSpec)

/-- ITS FALSE NEIGHBOUR: 'it returns false'. Refute it at one input. -/
def abecedaryShipsWrong : ChangeSpec := { name := "abecedaryShips", fn := fun _ => fun
  | [d1, d2, d3] => { results := [.lit (.bool false)], args := [d1, d2, d3] }
  | _ => none }
def AbecedaryShipsWrongFalsely : Prop := abecedaryShipsRow.holds Tryz.pinned (OpenSpec.ofChange abecedaryShipsWrong)

/-- 'abecedarylaw16.StateImages': WHATEVER THE INPUT: true; the input reads as it did. -/
def stateImagesSpec : ChangeSpec := { name := "stateImages", fn := fun _ => fun
  | [d] => { results := [.lit (.bool true)], args := [d] }
  | _ => none }
def stateImagesRow : OpenClaim := { program := "ythockgmbooefpaagreatdoor", sum := "a46a1547d98c028e502ff68f9f5038bd07c1d5292bc84ae3378c118a6a7e96f5", func := "abecedary/abecedarylaw16.StateImages", spec := "stateImages", inPlace := ["internal/bytealg.abigen_runtime_cmpstring"], unfollowed := true, recurses := true, named := ["abecedary/letters.least"], plainKeys := false, apart := false, laid := [("abecedary/letters.least", laid_abecedary_letters_least)] }
def StateImagesSaid : Prop := stateImagesRow.holds Tryz.pinned (OpenSpec.ofChange stateImagesSpec)

/-- ITS FALSE NEIGHBOUR: 'it returns false'. Refute it at one input. -/
def stateImagesWrong : ChangeSpec := { name := "stateImages", fn := fun _ => fun
  | [d] => { results := [.lit (.bool false)], args := [d] }
  | _ => none }
def StateImagesWrongFalsely : Prop := stateImagesRow.holds Tryz.pinned (OpenSpec.ofChange stateImagesWrong)

/-- 'abecedarylaw16.StateLoads': WHATEVER THE INPUT: true; the input reads as it did. -/
def stateLoadsSpec : ChangeSpec := { name := "stateLoads", fn := fun _ => fun
  | [d] => { results := [.lit (.bool true)], args := [d] }
  | _ => none }
def stateLoadsRow : OpenClaim := { program := "ythockgmbooefpaagreatdoor", sum := "a46a1547d98c028e502ff68f9f5038bd07c1d5292bc84ae3378c118a6a7e96f5", func := "abecedary/abecedarylaw16.StateLoads", spec := "stateLoads", inPlace := ["internal/bytealg.abigen_runtime_cmpstring"], unfollowed := true, recurses := true, named := ["abecedary/letters.least"], plainKeys := false, apart := false, laid := [("abecedary/letters.least", laid_abecedary_letters_least)] }
def StateLoadsSaid : Prop := stateLoadsRow.holds Tryz.pinned (OpenSpec.ofChange stateLoadsSpec)

/-- ITS FALSE NEIGHBOUR: 'it returns false'. Refute it at one input. -/
def stateLoadsWrong : ChangeSpec := { name := "stateLoads", fn := fun _ => fun
  | [d] => { results := [.lit (.bool false)], args := [d] }
  | _ => none }
def StateLoadsWrongFalsely : Prop := stateLoadsRow.holds Tryz.pinned (OpenSpec.ofChange stateLoadsWrong)

/-- 'abecedarylaw16.StateBack': WHATEVER THE INPUT: true; the input reads as it did. -/
def stateBackSpec : ChangeSpec := { name := "stateBack", fn := fun _ => fun
  | [d1, d2] => { results := [.lit (.bool true)], args := [d1, d2] }
  | _ => none }
def stateBackRow : OpenClaim := { program := "ythockgmbooefpaagreatdoor", sum := "a46a1547d98c028e502ff68f9f5038bd07c1d5292bc84ae3378c118a6a7e96f5", func := "abecedary/abecedarylaw16.StateBack", spec := "stateBack", inPlace := ["internal/bytealg.abigen_runtime_cmpstring"], unfollowed := true, recurses := true, named := ["abecedary/letters.least"], plainKeys := false, apart := false, laid := [("abecedary/letters.least", laid_abecedary_letters_least)] }
def StateBackSaid : Prop := stateBackRow.holds Tryz.pinned (OpenSpec.ofChange stateBackSpec)

/-- ITS FALSE NEIGHBOUR: 'it returns false'. Refute it at one input. -/
def stateBackWrong : ChangeSpec := { name := "stateBack", fn := fun _ => fun
  | [d1, d2] => { results := [.lit (.bool false)], args := [d1, d2] }
  | _ => none }
def StateBackWrongFalsely : Prop := stateBackRow.holds Tryz.pinned (OpenSpec.ofChange stateBackWrong)

/-- 'abecedarylaw16.StateSuggests': WHATEVER THE INPUT: true; the input reads as it did. -/
def stateSuggestsSpec : ChangeSpec := { name := "stateSuggests", fn := fun _ => fun
  | [d1, d2] => { results := [.lit (.bool true)], args := [d1, d2] }
  | _ => none }
def stateSuggestsRow : OpenClaim := { program := "ythockgmbooefpaagreatdoor", sum := "a46a1547d98c028e502ff68f9f5038bd07c1d5292bc84ae3378c118a6a7e96f5", func := "abecedary/abecedarylaw16.StateSuggests", spec := "stateSuggests", inPlace := ["internal/bytealg.abigen_runtime_cmpstring"], unfollowed := true, recurses := true, named := ["abecedary/letters.least"], plainKeys := false, apart := false, laid := [("abecedary/letters.least", laid_abecedary_letters_least)] }
def StateSuggestsSaid : Prop := stateSuggestsRow.holds Tryz.pinned (OpenSpec.ofChange stateSuggestsSpec)

/-- ITS FALSE NEIGHBOUR: 'it returns false'. Refute it at one input. -/
def stateSuggestsWrong : ChangeSpec := { name := "stateSuggests", fn := fun _ => fun
  | [d1, d2] => { results := [.lit (.bool false)], args := [d1, d2] }
  | _ => none }
def StateSuggestsWrongFalsely : Prop := stateSuggestsRow.holds Tryz.pinned (OpenSpec.ofChange stateSuggestsWrong)

/- THE SECOND FORM. 'bulk': how many values and letters a reading holds, each counted each time it is reached (what is shared counts as often as it is met; a slice's spare places count too). A statement '..UptoSaid' is the law's where the arguments, and the package variables that the reading takes, are together of bulk at most 1048576: NARROWER than '..Said'. Prove '..Said' where nothing that the law and all that it calls make is longer than what came in: it says more and counts as full. Else prove '..UptoSaid'. A law counts once. -/
mutual
def uptoBulk {H : Type} : DataW H → Nat
  | .lit (.string bytes) => bytes.length + 1
  | .lit _ => 1
  | .nil => 1
  | .ptr d => uptoBulk d + 1
  | .slice elems spare => uptoBulkAll elems + uptoBulkAll spare + 1
  | .agg parts => uptoBulkAll parts + 1
  | .iface _ d => uptoBulk d + 1
  | .map entries => uptoBulkEntries entries + 1
  | .held _ => 1
def uptoBulkAll {H : Type} : List (DataW H) → Nat
  | [] => 0
  | d :: r => uptoBulk d + uptoBulkAll r
def uptoBulkEntries {H : Type} : List (Lit × DataW H) → Nat
  | [] => 0
  | x :: r => uptoBulkEntry x + uptoBulkEntries r
def uptoBulkEntry {H : Type} : Lit × DataW H → Nat
  | (.string bytes, d) => bytes.length + uptoBulk d + 1
  | (_, d) => uptoBulk d + 1
 end
def uptoSmall : (H : Type) → List (DataW H) → Bool := fun _ ds => decide (uptoBulkAll ds ≤ 1048576)
def OpenSpec.upto (s : _root_.Go.ChangeSpec) : _root_.Go.OpenSpec := { _root_.Go.OpenSpec.ofChange s with cond := some uptoSmall }

/-- 'abecedarytop.AbecedaryBest', WHERE WHAT IT READS IS OF BULK AT MOST 1048576: true; the input reads as it did. -/
def abecedaryBestUptoRow : OpenClaim := { program := "ythockgmbooefpaagreatdoor", sum := "a46a1547d98c028e502ff68f9f5038bd07c1d5292bc84ae3378c118a6a7e96f5", func := "abecedary/abecedarytop.AbecedaryBest", spec := "abecedaryBest", inPlace := ["internal/bytealg.abigen_runtime_cmpstring"], unfollowed := true, recurses := true, named := ["abecedary/letters.least"], plainKeys := false, apart := false, laid := [("abecedary/letters.least", laid_abecedary_letters_least)], narrowed := true }
def AbecedaryBestUptoSaid : Prop := abecedaryBestUptoRow.holds Tryz.pinned (OpenSpec.upto abecedaryBestSpec)

/-- 'abecedarytop.AbecedaryShips', WHERE WHAT IT READS IS OF BULK AT MOST 1048576: true; the input reads as it did. -/
def abecedaryShipsUptoRow : OpenClaim := { program := "ythockgmbooefpaagreatdoor", sum := "a46a1547d98c028e502ff68f9f5038bd07c1d5292bc84ae3378c118a6a7e96f5", func := "abecedary/abecedarytop.AbecedaryShips", spec := "abecedaryShips", inPlace := ["internal/bytealg.abigen_runtime_cmpstring"], unfollowed := true, recurses := true, named := ["abecedary/letters.least"], plainKeys := false, apart := false, laid := [("abecedary/letters.least", laid_abecedary_letters_least)], narrowed := true }
def AbecedaryShipsUptoSaid : Prop := abecedaryShipsUptoRow.holds Tryz.pinned (OpenSpec.upto abecedaryShipsSpec)

/-- 'abecedarylaw16.StateImages', WHERE WHAT IT READS IS OF BULK AT MOST 1048576: true; the input reads as it did. -/
def stateImagesUptoRow : OpenClaim := { program := "ythockgmbooefpaagreatdoor", sum := "a46a1547d98c028e502ff68f9f5038bd07c1d5292bc84ae3378c118a6a7e96f5", func := "abecedary/abecedarylaw16.StateImages", spec := "stateImages", inPlace := ["internal/bytealg.abigen_runtime_cmpstring"], unfollowed := true, recurses := true, named := ["abecedary/letters.least"], plainKeys := false, apart := false, laid := [("abecedary/letters.least", laid_abecedary_letters_least)], narrowed := true }
def StateImagesUptoSaid : Prop := stateImagesUptoRow.holds Tryz.pinned (OpenSpec.upto stateImagesSpec)

/-- 'abecedarylaw16.StateLoads', WHERE WHAT IT READS IS OF BULK AT MOST 1048576: true; the input reads as it did. -/
def stateLoadsUptoRow : OpenClaim := { program := "ythockgmbooefpaagreatdoor", sum := "a46a1547d98c028e502ff68f9f5038bd07c1d5292bc84ae3378c118a6a7e96f5", func := "abecedary/abecedarylaw16.StateLoads", spec := "stateLoads", inPlace := ["internal/bytealg.abigen_runtime_cmpstring"], unfollowed := true, recurses := true, named := ["abecedary/letters.least"], plainKeys := false, apart := false, laid := [("abecedary/letters.least", laid_abecedary_letters_least)], narrowed := true }
def StateLoadsUptoSaid : Prop := stateLoadsUptoRow.holds Tryz.pinned (OpenSpec.upto stateLoadsSpec)

/-- 'abecedarylaw16.StateBack', WHERE WHAT IT READS IS OF BULK AT MOST 1048576: true; the input reads as it did. -/
def stateBackUptoRow : OpenClaim := { program := "ythockgmbooefpaagreatdoor", sum := "a46a1547d98c028e502ff68f9f5038bd07c1d5292bc84ae3378c118a6a7e96f5", func := "abecedary/abecedarylaw16.StateBack", spec := "stateBack", inPlace := ["internal/bytealg.abigen_runtime_cmpstring"], unfollowed := true, recurses := true, named := ["abecedary/letters.least"], plainKeys := false, apart := false, laid := [("abecedary/letters.least", laid_abecedary_letters_least)], narrowed := true }
def StateBackUptoSaid : Prop := stateBackUptoRow.holds Tryz.pinned (OpenSpec.upto stateBackSpec)

/-- 'abecedarylaw16.StateSuggests', WHERE WHAT IT READS IS OF BULK AT MOST 1048576: true; the input reads as it did. -/
def stateSuggestsUptoRow : OpenClaim := { program := "ythockgmbooefpaagreatdoor", sum := "a46a1547d98c028e502ff68f9f5038bd07c1d5292bc84ae3378c118a6a7e96f5", func := "abecedary/abecedarylaw16.StateSuggests", spec := "stateSuggests", inPlace := ["internal/bytealg.abigen_runtime_cmpstring"], unfollowed := true, recurses := true, named := ["abecedary/letters.least"], plainKeys := false, apart := false, laid := [("abecedary/letters.least", laid_abecedary_letters_least)], narrowed := true }
def StateSuggestsUptoSaid : Prop := stateSuggestsUptoRow.holds Tryz.pinned (OpenSpec.upto stateSuggestsSpec)

end Rows
end Go.Proofs.YthockgmbooefpaaGreatDoor
