/-
  NARROWER THAN 'FOR EVERY INPUT', by the rows' own cells (each row's printed sentence says how): DictLoads: laid · DictWeighs: laid · DictSuggests: laid · DictMachine: laid · DictOthers: laid · DictFull: laid · DictAll: laid · DictCompacts: laid · DictApart: laid · StateImages: laid · StateLoads: laid · StateBack: laid · StateSuggests: laid · AbecedaryBest: laid · AbecedaryShips: laid.
  DERIVED. THE GIVEN ROWS OF THIS SEAT. 15 by the template 'for every input the law returns true; each argument reads behind the call as it read before'; 0 by the template 'total and deterministic' (their statements: YtbijfoeaemceiaaGreatDoorTotals.lean).
  GIVEN WITH THE SEED: the statements are not yours to turn. If you find one false, say at which input.
  Laid BY PROGRAM, IN A SANDBOX (cutbox-rows.mjs): the forced cells as the released guide's own fill.sh prints them over the translation 38c112754b1b820f… (all of the seat's roots in one cut). By AI agents, Wed Nov 11 2026. No macro, syntax, notation, axiom, sorry.
-/
import Derived.Test.YtbijfoeaemceiaaGreatDoorChecked
import GoSem.Claim
import GoSem.ClaimJoined
import GoSem.ClaimMapViews
import Derived.JoinedTies
import Derived.KernelRfl
namespace Go.Proofs.YtbijfoeaemceiaaGreatDoor
/- THE CELL 'sum', in the pinned program and in every row, IS THE sha256 OF THE DUMP (.gsa) THAT YtbijfoeaemceiaaGreatDoorProg.lean LOADS. Nothing in Lean hashes anything: it is a label: what it is worth is what the hold of that sum in a sandbox is worth. -/
noncomputable def Tryz.pinned : Pinned := { name := "ytbijfoeaemceiaagreatdoor", sum := "38c112754b1b820fbdc963e20b7fe48432db272aa03953b08dee68a0463d84bc", checked := Tryz.checked }
namespace Rows
def none {H : Type} : Left H := { results := [], args := [] }

/- WHAT THE LISTED PACKAGE-LEVEL VARIABLES READ AS WHEN THE CALL BEGINS. Each datum BY PROGRAM (the guide's laid-datum.mjs) off the statement by which the dump's own 'gosem.cut.vars' lays the variable. In a bare row this is a premise. The card (YtbijfoeaemceiaaGreatDoorCards.lean) ties it to the program's text. -/
def laid_abecedary_letters_least {H : Type} : DataW H := .agg [.lit (.int .i32 0), .lit (.int .i32 0), .lit (.int .i32 128), .lit (.int .i32 2048), .lit (.int .i32 65536)]

/-- 'abecedarylaw14.DictLoads': WHATEVER THE INPUT: true; the input reads as it did. -/
def dictLoadsSpec : ChangeSpec := { name := "dictLoads", fn := fun _ => fun
  | [d] => { results := [.lit (.bool true)], args := [d] }
  | _ => none }
def dictLoadsRow : OpenClaim := { program := "ytbijfoeaemceiaagreatdoor", sum := "38c112754b1b820fbdc963e20b7fe48432db272aa03953b08dee68a0463d84bc", func := "abecedary/abecedarylaw14.DictLoads", spec := "dictLoads", inPlace := ["internal/bytealg.abigen_runtime_cmpstring"], unfollowed := true, recurses := true, named := ["abecedary/letters.least"], plainKeys := false, apart := false, laid := [("abecedary/letters.least", laid_abecedary_letters_least)] }
def DictLoadsSaid : Prop := dictLoadsRow.holds Tryz.pinned (OpenSpec.ofChange dictLoadsSpec)

/-- ITS FALSE NEIGHBOUR: 'it returns false'. Refute it at one input. -/
def dictLoadsWrong : ChangeSpec := { name := "dictLoads", fn := fun _ => fun
  | [d] => { results := [.lit (.bool false)], args := [d] }
  | _ => none }
def DictLoadsWrongFalsely : Prop := dictLoadsRow.holds Tryz.pinned (OpenSpec.ofChange dictLoadsWrong)

/-- 'abecedarylaw14.DictWeighs': WHATEVER THE INPUT: true; the input reads as it did. -/
def dictWeighsSpec : ChangeSpec := { name := "dictWeighs", fn := fun _ => fun
  | [d1, d2, d3] => { results := [.lit (.bool true)], args := [d1, d2, d3] }
  | _ => none }
def dictWeighsRow : OpenClaim := { program := "ytbijfoeaemceiaagreatdoor", sum := "38c112754b1b820fbdc963e20b7fe48432db272aa03953b08dee68a0463d84bc", func := "abecedary/abecedarylaw14.DictWeighs", spec := "dictWeighs", inPlace := ["internal/bytealg.abigen_runtime_cmpstring"], unfollowed := true, recurses := true, named := ["abecedary/letters.least"], plainKeys := false, apart := false, laid := [("abecedary/letters.least", laid_abecedary_letters_least)] }
def DictWeighsSaid : Prop := dictWeighsRow.holds Tryz.pinned (OpenSpec.ofChange dictWeighsSpec)

/-- ITS FALSE NEIGHBOUR: 'it returns false'. Refute it at one input. -/
def dictWeighsWrong : ChangeSpec := { name := "dictWeighs", fn := fun _ => fun
  | [d1, d2, d3] => { results := [.lit (.bool false)], args := [d1, d2, d3] }
  | _ => none }
def DictWeighsWrongFalsely : Prop := dictWeighsRow.holds Tryz.pinned (OpenSpec.ofChange dictWeighsWrong)

/-- 'abecedarylaw14.DictSuggests': WHATEVER THE INPUT: true; the input reads as it did. -/
def dictSuggestsSpec : ChangeSpec := { name := "dictSuggests", fn := fun _ => fun
  | [d1, d2, d3] => { results := [.lit (.bool true)], args := [d1, d2, d3] }
  | _ => none }
def dictSuggestsRow : OpenClaim := { program := "ytbijfoeaemceiaagreatdoor", sum := "38c112754b1b820fbdc963e20b7fe48432db272aa03953b08dee68a0463d84bc", func := "abecedary/abecedarylaw14.DictSuggests", spec := "dictSuggests", inPlace := ["internal/bytealg.abigen_runtime_cmpstring"], unfollowed := true, recurses := true, named := ["abecedary/letters.least"], plainKeys := false, apart := false, laid := [("abecedary/letters.least", laid_abecedary_letters_least)] }
def DictSuggestsSaid : Prop := dictSuggestsRow.holds Tryz.pinned (OpenSpec.ofChange dictSuggestsSpec)

/-- ITS FALSE NEIGHBOUR: 'it returns false'. Refute it at one input. -/
def dictSuggestsWrong : ChangeSpec := { name := "dictSuggests", fn := fun _ => fun
  | [d1, d2, d3] => { results := [.lit (.bool false)], args := [d1, d2, d3] }
  | _ => none }
def DictSuggestsWrongFalsely : Prop := dictSuggestsRow.holds Tryz.pinned (OpenSpec.ofChange dictSuggestsWrong)

/-- 'abecedarylaw14.DictMachine': WHATEVER THE INPUT: true; the input reads as it did. -/
def dictMachineSpec : ChangeSpec := { name := "dictMachine", fn := fun _ => fun
  | [d1, d2] => { results := [.lit (.bool true)], args := [d1, d2] }
  | _ => none }
def dictMachineRow : OpenClaim := { program := "ytbijfoeaemceiaagreatdoor", sum := "38c112754b1b820fbdc963e20b7fe48432db272aa03953b08dee68a0463d84bc", func := "abecedary/abecedarylaw14.DictMachine", spec := "dictMachine", inPlace := ["internal/bytealg.abigen_runtime_cmpstring"], unfollowed := true, recurses := true, named := ["abecedary/letters.least"], plainKeys := false, apart := false, laid := [("abecedary/letters.least", laid_abecedary_letters_least)] }
def DictMachineSaid : Prop := dictMachineRow.holds Tryz.pinned (OpenSpec.ofChange dictMachineSpec)

/-- ITS FALSE NEIGHBOUR: 'it returns false'. Refute it at one input. -/
def dictMachineWrong : ChangeSpec := { name := "dictMachine", fn := fun _ => fun
  | [d1, d2] => { results := [.lit (.bool false)], args := [d1, d2] }
  | _ => none }
def DictMachineWrongFalsely : Prop := dictMachineRow.holds Tryz.pinned (OpenSpec.ofChange dictMachineWrong)

/-- 'abecedarylaw14.DictOthers': WHATEVER THE INPUT: true; the input reads as it did. -/
def dictOthersSpec : ChangeSpec := { name := "dictOthers", fn := fun _ => fun
  | [d1, d2, d3] => { results := [.lit (.bool true)], args := [d1, d2, d3] }
  | _ => none }
def dictOthersRow : OpenClaim := { program := "ytbijfoeaemceiaagreatdoor", sum := "38c112754b1b820fbdc963e20b7fe48432db272aa03953b08dee68a0463d84bc", func := "abecedary/abecedarylaw14.DictOthers", spec := "dictOthers", inPlace := ["internal/bytealg.abigen_runtime_cmpstring"], unfollowed := true, recurses := true, named := ["abecedary/letters.least"], plainKeys := false, apart := false, laid := [("abecedary/letters.least", laid_abecedary_letters_least)] }
def DictOthersSaid : Prop := dictOthersRow.holds Tryz.pinned (OpenSpec.ofChange dictOthersSpec)

/-- ITS FALSE NEIGHBOUR: 'it returns false'. Refute it at one input. -/
def dictOthersWrong : ChangeSpec := { name := "dictOthers", fn := fun _ => fun
  | [d1, d2, d3] => { results := [.lit (.bool false)], args := [d1, d2, d3] }
  | _ => none }
def DictOthersWrongFalsely : Prop := dictOthersRow.holds Tryz.pinned (OpenSpec.ofChange dictOthersWrong)

/-- 'abecedarylaw14.DictFull': WHATEVER THE INPUT: true; the input reads as it did. -/
def dictFullSpec : ChangeSpec := { name := "dictFull", fn := fun _ => fun
  | [d] => { results := [.lit (.bool true)], args := [d] }
  | _ => none }
def dictFullRow : OpenClaim := { program := "ytbijfoeaemceiaagreatdoor", sum := "38c112754b1b820fbdc963e20b7fe48432db272aa03953b08dee68a0463d84bc", func := "abecedary/abecedarylaw14.DictFull", spec := "dictFull", inPlace := ["internal/bytealg.abigen_runtime_cmpstring"], unfollowed := true, recurses := true, named := ["abecedary/letters.least"], plainKeys := false, apart := false, laid := [("abecedary/letters.least", laid_abecedary_letters_least)] }
def DictFullSaid : Prop := dictFullRow.holds Tryz.pinned (OpenSpec.ofChange dictFullSpec)

/-- ITS FALSE NEIGHBOUR: 'it returns false'. Refute it at one input. -/
def dictFullWrong : ChangeSpec := { name := "dictFull", fn := fun _ => fun
  | [d] => { results := [.lit (.bool false)], args := [d] }
  | _ => none }
def DictFullWrongFalsely : Prop := dictFullRow.holds Tryz.pinned (OpenSpec.ofChange dictFullWrong)

/-- 'abecedarylaw14.DictAll': WHATEVER THE INPUT: true; the input reads as it did. -/
def dictAllSpec : ChangeSpec := { name := "dictAll", fn := fun _ => fun
  | [d1, d2] => { results := [.lit (.bool true)], args := [d1, d2] }
  | _ => none }
def dictAllRow : OpenClaim := { program := "ytbijfoeaemceiaagreatdoor", sum := "38c112754b1b820fbdc963e20b7fe48432db272aa03953b08dee68a0463d84bc", func := "abecedary/abecedarylaw14.DictAll", spec := "dictAll", inPlace := ["internal/bytealg.abigen_runtime_cmpstring"], unfollowed := true, recurses := true, named := ["abecedary/letters.least"], plainKeys := false, apart := false, laid := [("abecedary/letters.least", laid_abecedary_letters_least)] }
def DictAllSaid : Prop := dictAllRow.holds Tryz.pinned (OpenSpec.ofChange dictAllSpec)

/-- ITS FALSE NEIGHBOUR: 'it returns false'. Refute it at one input. -/
def dictAllWrong : ChangeSpec := { name := "dictAll", fn := fun _ => fun
  | [d1, d2] => { results := [.lit (.bool false)], args := [d1, d2] }
  | _ => none }
def DictAllWrongFalsely : Prop := dictAllRow.holds Tryz.pinned (OpenSpec.ofChange dictAllWrong)

/-- 'abecedarylaw14.DictCompacts': WHATEVER THE INPUT: true; the input reads as it did. -/
def dictCompactsSpec : ChangeSpec := { name := "dictCompacts", fn := fun _ => fun
  | [d1, d2, d3] => { results := [.lit (.bool true)], args := [d1, d2, d3] }
  | _ => none }
def dictCompactsRow : OpenClaim := { program := "ytbijfoeaemceiaagreatdoor", sum := "38c112754b1b820fbdc963e20b7fe48432db272aa03953b08dee68a0463d84bc", func := "abecedary/abecedarylaw14.DictCompacts", spec := "dictCompacts", inPlace := ["internal/bytealg.abigen_runtime_cmpstring"], unfollowed := true, recurses := true, named := ["abecedary/letters.least"], plainKeys := false, apart := false, laid := [("abecedary/letters.least", laid_abecedary_letters_least)] }
def DictCompactsSaid : Prop := dictCompactsRow.holds Tryz.pinned (OpenSpec.ofChange dictCompactsSpec)

/-- ITS FALSE NEIGHBOUR: 'it returns false'. Refute it at one input. -/
def dictCompactsWrong : ChangeSpec := { name := "dictCompacts", fn := fun _ => fun
  | [d1, d2, d3] => { results := [.lit (.bool false)], args := [d1, d2, d3] }
  | _ => none }
def DictCompactsWrongFalsely : Prop := dictCompactsRow.holds Tryz.pinned (OpenSpec.ofChange dictCompactsWrong)

/-- 'abecedarylaw14.DictApart': WHATEVER THE INPUT: true; the input reads as it did. -/
def dictApartSpec : ChangeSpec := { name := "dictApart", fn := fun _ => fun
  | [d1, d2, d3] => { results := [.lit (.bool true)], args := [d1, d2, d3] }
  | _ => none }
def dictApartRow : OpenClaim := { program := "ytbijfoeaemceiaagreatdoor", sum := "38c112754b1b820fbdc963e20b7fe48432db272aa03953b08dee68a0463d84bc", func := "abecedary/abecedarylaw14.DictApart", spec := "dictApart", inPlace := ["internal/bytealg.abigen_runtime_cmpstring"], unfollowed := true, recurses := true, named := ["abecedary/letters.least"], plainKeys := false, apart := false, laid := [("abecedary/letters.least", laid_abecedary_letters_least)] }
def DictApartSaid : Prop := dictApartRow.holds Tryz.pinned (OpenSpec.ofChange dictApartSpec)

/-- ITS FALSE NEIGHBOUR: 'it returns false'. Refute it at one input. -/
def dictApartWrong : ChangeSpec := { name := "dictApart", fn := fun _ => fun
  | [d1, d2, d3] => { results := [.lit (.bool false)], args := [d1, d2, d3] }
  | _ => none }
def DictApartWrongFalsely : Prop := dictApartRow.holds Tryz.pinned (OpenSpec.ofChange dictApartWrong)

/-- 'abecedarylaw16.StateImages': WHATEVER THE INPUT: true; the input reads as it did. -/
def stateImagesSpec : ChangeSpec := { name := "stateImages", fn := fun _ => fun
  | [d] => { results := [.lit (.bool true)], args := [d] }
  | _ => none }
def stateImagesRow : OpenClaim := { program := "ytbijfoeaemceiaagreatdoor", sum := "38c112754b1b820fbdc963e20b7fe48432db272aa03953b08dee68a0463d84bc", func := "abecedary/abecedarylaw16.StateImages", spec := "stateImages", inPlace := ["internal/bytealg.abigen_runtime_cmpstring"], unfollowed := true, recurses := true, named := ["abecedary/letters.least"], plainKeys := false, apart := false, laid := [("abecedary/letters.least", laid_abecedary_letters_least)] }
def StateImagesSaid : Prop := stateImagesRow.holds Tryz.pinned (OpenSpec.ofChange stateImagesSpec)

/-- ITS FALSE NEIGHBOUR: 'it returns false'. Refute it at one input. -/
def stateImagesWrong : ChangeSpec := { name := "stateImages", fn := fun _ => fun
  | [d] => { results := [.lit (.bool false)], args := [d] }
  | _ => none }
def StateImagesWrongFalsely : Prop := stateImagesRow.holds Tryz.pinned (OpenSpec.ofChange stateImagesWrong)

/-- 'abecedarylaw16.StateLoads': WHATEVER THE INPUT: true; the input reads as it did. -/
def stateLoadsSpec : ChangeSpec := { name := "stateLoads", fn := fun _ => fun
  | [d] => { results := [.lit (.bool true)], args := [d] }
  | _ => none }
def stateLoadsRow : OpenClaim := { program := "ytbijfoeaemceiaagreatdoor", sum := "38c112754b1b820fbdc963e20b7fe48432db272aa03953b08dee68a0463d84bc", func := "abecedary/abecedarylaw16.StateLoads", spec := "stateLoads", inPlace := ["internal/bytealg.abigen_runtime_cmpstring"], unfollowed := true, recurses := true, named := ["abecedary/letters.least"], plainKeys := false, apart := false, laid := [("abecedary/letters.least", laid_abecedary_letters_least)] }
def StateLoadsSaid : Prop := stateLoadsRow.holds Tryz.pinned (OpenSpec.ofChange stateLoadsSpec)

/-- ITS FALSE NEIGHBOUR: 'it returns false'. Refute it at one input. -/
def stateLoadsWrong : ChangeSpec := { name := "stateLoads", fn := fun _ => fun
  | [d] => { results := [.lit (.bool false)], args := [d] }
  | _ => none }
def StateLoadsWrongFalsely : Prop := stateLoadsRow.holds Tryz.pinned (OpenSpec.ofChange stateLoadsWrong)

/-- 'abecedarylaw16.StateBack': WHATEVER THE INPUT: true; the input reads as it did. -/
def stateBackSpec : ChangeSpec := { name := "stateBack", fn := fun _ => fun
  | [d1, d2] => { results := [.lit (.bool true)], args := [d1, d2] }
  | _ => none }
def stateBackRow : OpenClaim := { program := "ytbijfoeaemceiaagreatdoor", sum := "38c112754b1b820fbdc963e20b7fe48432db272aa03953b08dee68a0463d84bc", func := "abecedary/abecedarylaw16.StateBack", spec := "stateBack", inPlace := ["internal/bytealg.abigen_runtime_cmpstring"], unfollowed := true, recurses := true, named := ["abecedary/letters.least"], plainKeys := false, apart := false, laid := [("abecedary/letters.least", laid_abecedary_letters_least)] }
def StateBackSaid : Prop := stateBackRow.holds Tryz.pinned (OpenSpec.ofChange stateBackSpec)

/-- ITS FALSE NEIGHBOUR: 'it returns false'. Refute it at one input. -/
def stateBackWrong : ChangeSpec := { name := "stateBack", fn := fun _ => fun
  | [d1, d2] => { results := [.lit (.bool false)], args := [d1, d2] }
  | _ => none }
def StateBackWrongFalsely : Prop := stateBackRow.holds Tryz.pinned (OpenSpec.ofChange stateBackWrong)

/-- 'abecedarylaw16.StateSuggests': WHATEVER THE INPUT: true; the input reads as it did. -/
def stateSuggestsSpec : ChangeSpec := { name := "stateSuggests", fn := fun _ => fun
  | [d1, d2] => { results := [.lit (.bool true)], args := [d1, d2] }
  | _ => none }
def stateSuggestsRow : OpenClaim := { program := "ytbijfoeaemceiaagreatdoor", sum := "38c112754b1b820fbdc963e20b7fe48432db272aa03953b08dee68a0463d84bc", func := "abecedary/abecedarylaw16.StateSuggests", spec := "stateSuggests", inPlace := ["internal/bytealg.abigen_runtime_cmpstring"], unfollowed := true, recurses := true, named := ["abecedary/letters.least"], plainKeys := false, apart := false, laid := [("abecedary/letters.least", laid_abecedary_letters_least)] }
def StateSuggestsSaid : Prop := stateSuggestsRow.holds Tryz.pinned (OpenSpec.ofChange stateSuggestsSpec)

/-- ITS FALSE NEIGHBOUR: 'it returns false'. Refute it at one input. -/
def stateSuggestsWrong : ChangeSpec := { name := "stateSuggests", fn := fun _ => fun
  | [d1, d2] => { results := [.lit (.bool false)], args := [d1, d2] }
  | _ => none }
def StateSuggestsWrongFalsely : Prop := stateSuggestsRow.holds Tryz.pinned (OpenSpec.ofChange stateSuggestsWrong)

/-- 'abecedarytop.AbecedaryBest': WHATEVER THE INPUT: true; the input reads as it did. -/
def abecedaryBestSpec : ChangeSpec := { name := "abecedaryBest", fn := fun _ => fun
  | [d1, d2] => { results := [.lit (.bool true)], args := [d1, d2] }
  | _ => none }
def abecedaryBestRow : OpenClaim := { program := "ytbijfoeaemceiaagreatdoor", sum := "38c112754b1b820fbdc963e20b7fe48432db272aa03953b08dee68a0463d84bc", func := "abecedary/abecedarytop.AbecedaryBest", spec := "abecedaryBest", inPlace := ["internal/bytealg.abigen_runtime_cmpstring"], unfollowed := true, recurses := true, named := ["abecedary/letters.least"], plainKeys := false, apart := false, laid := [("abecedary/letters.least", laid_abecedary_letters_least)] }
def AbecedaryBestSaid : Prop := abecedaryBestRow.holds Tryz.pinned (OpenSpec.ofChange abecedaryBestSpec)

/-- ITS FALSE NEIGHBOUR: 'it returns false'. Refute it at one input. -/
def abecedaryBestWrong : ChangeSpec := { name := "abecedaryBest", fn := fun _ => fun
  | [d1, d2] => { results := [.lit (.bool false)], args := [d1, d2] }
  | _ => none }
def AbecedaryBestWrongFalsely : Prop := abecedaryBestRow.holds Tryz.pinned (OpenSpec.ofChange abecedaryBestWrong)

/-- 'abecedarytop.AbecedaryShips': WHATEVER THE INPUT: true; the input reads as it did. -/
def abecedaryShipsSpec : ChangeSpec := { name := "abecedaryShips", fn := fun _ => fun
  | [d1, d2, d3] => { results := [.lit (.bool true)], args := [d1, d2, d3] }
  | _ => none }
def abecedaryShipsRow : OpenClaim := { program := "ytbijfoeaemceiaagreatdoor", sum := "38c112754b1b820fbdc963e20b7fe48432db272aa03953b08dee68a0463d84bc", func := "abecedary/abecedarytop.AbecedaryShips", spec := "abecedaryShips", inPlace := ["internal/bytealg.abigen_runtime_cmpstring"], unfollowed := true, recurses := true, named := ["abecedary/letters.least"], plainKeys := false, apart := false, laid := [("abecedary/letters.least", laid_abecedary_letters_least)] }
def AbecedaryShipsSaid : Prop := abecedaryShipsRow.holds Tryz.pinned (OpenSpec.ofChange abecedaryShipsSpec)

/-- ITS FALSE NEIGHBOUR: 'it returns false'. Refute it at one input. -/
def abecedaryShipsWrong : ChangeSpec := { name := "abecedaryShips", fn := fun _ => fun
  | [d1, d2, d3] => { results := [.lit (.bool false)], args := [d1, d2, d3] }
  | _ => none }
def AbecedaryShipsWrongFalsely : Prop := abecedaryShipsRow.holds Tryz.pinned (OpenSpec.ofChange abecedaryShipsWrong)

/- THE SECOND FORM. 'bulk': how many values and letters a reading holds, each counted each time it is reached (what is shared counts as often as it is met; a slice's spare places count too). A statement '..UptoSaid' is the law's where the arguments, and the package variables that the reading takes, are together of bulk at most 1048576: NARROWER than '..Said'. Prove '..Said' where nothing that the law and all that it calls make is longer than what came in: it says more and counts as full. Else prove '..UptoSaid'. A law counts once. -/
mutual
def uptoBulk {H : Type} : DataW H → Nat
  | .lit (.string bytes) => bytes.length + 1
  | .lit _ => 1
  | .nil => 1
  | .ptr d => uptoBulk d + 1
  | .slice elems spare => uptoBulkAll elems + uptoBulkAll spare + 1
  | .agg parts => uptoBulkAll parts + 1
  | .iface _ d => uptoBulk d + 1
  | .map entries => uptoBulkEntries entries + 1
  | .held _ => 1
def uptoBulkAll {H : Type} : List (DataW H) → Nat
  | [] => 0
  | d :: r => uptoBulk d + uptoBulkAll r
def uptoBulkEntries {H : Type} : List (Lit × DataW H) → Nat
  | [] => 0
  | x :: r => uptoBulkEntry x + uptoBulkEntries r
def uptoBulkEntry {H : Type} : Lit × DataW H → Nat
  | (.string bytes, d) => bytes.length + uptoBulk d + 1
  | (_, d) => uptoBulk d + 1
 end
def uptoSmall : (H : Type) → List (DataW H) → Bool := fun _ ds => decide (uptoBulkAll ds ≤ 1048576)
def OpenSpec.upto (s : _root_.Go.ChangeSpec) : _root_.Go.OpenSpec := { _root_.Go.OpenSpec.ofChange s with cond := some uptoSmall }

/-- 'abecedarylaw14.DictLoads', WHERE WHAT IT READS IS OF BULK AT MOST 1048576: true; the input reads as it did. -/
def dictLoadsUptoRow : OpenClaim := { program := "ytbijfoeaemceiaagreatdoor", sum := "38c112754b1b820fbdc963e20b7fe48432db272aa03953b08dee68a0463d84bc", func := "abecedary/abecedarylaw14.DictLoads", spec := "dictLoads", inPlace := ["internal/bytealg.abigen_runtime_cmpstring"], unfollowed := true, recurses := true, named := ["abecedary/letters.least"], plainKeys := false, apart := false, laid := [("abecedary/letters.least", laid_abecedary_letters_least)], narrowed := true }
def DictLoadsUptoSaid : Prop := dictLoadsUptoRow.holds Tryz.pinned (OpenSpec.upto dictLoadsSpec)

/-- 'abecedarylaw14.DictWeighs', WHERE WHAT IT READS IS OF BULK AT MOST 1048576: true; the input reads as it did. -/
def dictWeighsUptoRow : OpenClaim := { program := "ytbijfoeaemceiaagreatdoor", sum := "38c112754b1b820fbdc963e20b7fe48432db272aa03953b08dee68a0463d84bc", func := "abecedary/abecedarylaw14.DictWeighs", spec := "dictWeighs", inPlace := ["internal/bytealg.abigen_runtime_cmpstring"], unfollowed := true, recurses := true, named := ["abecedary/letters.least"], plainKeys := false, apart := false, laid := [("abecedary/letters.least", laid_abecedary_letters_least)], narrowed := true }
def DictWeighsUptoSaid : Prop := dictWeighsUptoRow.holds Tryz.pinned (OpenSpec.upto dictWeighsSpec)

/-- 'abecedarylaw14.DictSuggests', WHERE WHAT IT READS IS OF BULK AT MOST 1048576: true; the input reads as it did. -/
def dictSuggestsUptoRow : OpenClaim := { program := "ytbijfoeaemceiaagreatdoor", sum := "38c112754b1b820fbdc963e20b7fe48432db272aa03953b08dee68a0463d84bc", func := "abecedary/abecedarylaw14.DictSuggests", spec := "dictSuggests", inPlace := ["internal/bytealg.abigen_runtime_cmpstring"], unfollowed := true, recurses := true, named := ["abecedary/letters.least"], plainKeys := false, apart := false, laid := [("abecedary/letters.least", laid_abecedary_letters_least)], narrowed := true }
def DictSuggestsUptoSaid : Prop := dictSuggestsUptoRow.holds Tryz.pinned (OpenSpec.upto dictSuggestsSpec)

/-- 'abecedarylaw14.DictMachine', WHERE WHAT IT READS IS OF BULK AT MOST 1048576: true; the input reads as it did. -/
def dictMachineUptoRow : OpenClaim := { program := "ytbijfoeaemceiaagreatdoor", sum := "38c112754b1b820fbdc963e20b7fe48432db272aa03953b08dee68a0463d84bc", func := "abecedary/abecedarylaw14.DictMachine", spec := "dictMachine", inPlace := ["internal/bytealg.abigen_runtime_cmpstring"], unfollowed := true, recurses := true, named := ["abecedary/letters.least"], plainKeys := false, apart := false, laid := [("abecedary/letters.least", laid_abecedary_letters_least)], narrowed := true }
def DictMachineUptoSaid : Prop := dictMachineUptoRow.holds Tryz.pinned (OpenSpec.upto dictMachineSpec)

/-- 'abecedarylaw14.DictOthers', WHERE WHAT IT READS IS OF BULK AT MOST 1048576: true; the input reads as it did. -/
def dictOthersUptoRow : OpenClaim := { program := "ytbijfoeaemceiaagreatdoor", sum := "38c112754b1b820fbdc963e20b7fe48432db272aa03953b08dee68a0463d84bc", func := "abecedary/abecedarylaw14.DictOthers", spec := "dictOthers", inPlace := ["internal/bytealg.abigen_runtime_cmpstring"], unfollowed := true, recurses := true, named := ["abecedary/letters.least"], plainKeys := false, apart := false, laid := [("abecedary/letters.least", laid_abecedary_letters_least)], narrowed := true }
def DictOthersUptoSaid : Prop := dictOthersUptoRow.holds Tryz.pinned (OpenSpec.upto dictOthersSpec)

/-- 'abecedarylaw14.DictFull', WHERE WHAT IT READS IS OF BULK AT MOST 1048576: true; the input reads as it did. -/
def dictFullUptoRow : OpenClaim := { program := "ytbijfoeaemceiaagreatdoor", sum := "38c112754b1b820fbdc963e20b7fe48432db272aa03953b08dee68a0463d84bc", func := "abecedary/abecedarylaw14.DictFull", spec := "dictFull", inPlace := ["internal/bytealg.abigen_runtime_cmpstring"], unfollowed := true, recurses := true, named := ["abecedary/letters.least"], plainKeys := false, apart := false, laid := [("abecedary/letters.least", laid_abecedary_letters_least)], narrowed := true }
def DictFullUptoSaid : Prop := dictFullUptoRow.holds Tryz.pinned (OpenSpec.upto dictFullSpec)

/-- 'abecedarylaw14.DictAll', WHERE WHAT IT READS IS OF BULK AT MOST 1048576: true; the input reads as it did. -/
def dictAllUptoRow : OpenClaim := { program := "ytbijfoeaemceiaagreatdoor", sum := "38c112754b1b820fbdc963e20b7fe48432db272aa03953b08dee68a0463d84bc", func := "abecedary/abecedarylaw14.DictAll", spec := "dictAll", inPlace := ["internal/bytealg.abigen_runtime_cmpstring"], unfollowed := true, recurses := true, named := ["abecedary/letters.least"], plainKeys := false, apart := false, laid := [("abecedary/letters.least", laid_abecedary_letters_least)], narrowed := true }
def DictAllUptoSaid : Prop := dictAllUptoRow.holds Tryz.pinned (OpenSpec.upto dictAllSpec)

/-- 'abecedarylaw14.DictCompacts', WHERE WHAT IT READS IS OF BULK AT MOST 1048576: true; the input reads as it did. -/
def dictCompactsUptoRow : OpenClaim := { program := "ytbijfoeaemceiaagreatdoor", sum := "38c112754b1b820fbdc963e20b7fe48432db272aa03953b08dee68a0463d84bc", func := "abecedary/abecedarylaw14.DictCompacts", spec := "dictCompacts", inPlace := ["internal/bytealg.abigen_runtime_cmpstring"], unfollowed := true, recurses := true, named := ["abecedary/letters.least"], plainKeys := false, apart := false, laid := [("abecedary/letters.least", laid_abecedary_letters_least)], narrowed := true }
def DictCompactsUptoSaid : Prop := dictCompactsUptoRow.holds Tryz.pinned (OpenSpec.upto dictCompactsSpec)

/-- 'abecedarylaw14.DictApart', WHERE WHAT IT READS IS OF BULK AT MOST 1048576: true; the input reads as it did. -/
def dictApartUptoRow : OpenClaim := { program := "ytbijfoeaemceiaagreatdoor", sum := "38c112754b1b820fbdc963e20b7fe48432db272aa03953b08dee68a0463d84bc", func := "abecedary/abecedarylaw14.DictApart", spec := "dictApart", inPlace := ["internal/bytealg.abigen_runtime_cmpstring"], unfollowed := true, recurses := true, named := ["abecedary/letters.least"], plainKeys := false, apart := false, laid := [("abecedary/letters.least", laid_abecedary_letters_least)], narrowed := true }
def DictApartUptoSaid : Prop := dictApartUptoRow.holds Tryz.pinned (OpenSpec.upto dictApartSpec)

/-- 'abecedarylaw16.StateImages', WHERE WHAT IT READS IS OF BULK AT MOST 1048576: true; the input reads as it did. -/
def stateImagesUptoRow : OpenClaim := { program := "ytbijfoeaemceiaagreatdoor", sum := "38c112754b1b820fbdc963e20b7fe48432db272aa03953b08dee68a0463d84bc", func := "abecedary/abecedarylaw16.StateImages", spec := "stateImages", inPlace := ["internal/bytealg.abigen_runtime_cmpstring"], unfollowed := true, recurses := true, named := ["abecedary/letters.least"], plainKeys := false, apart := false, laid := [("abecedary/letters.least", laid_abecedary_letters_least)], narrowed := true }
def StateImagesUptoSaid : Prop := stateImagesUptoRow.holds Tryz.pinned (OpenSpec.upto stateImagesSpec)

/-- 'abecedarylaw16.StateLoads', WHERE WHAT IT READS IS OF BULK AT MOST 1048576: true; the input reads as it did. -/
def stateLoadsUptoRow : OpenClaim := { program := "ytbijfoeaemceiaagreatdoor", sum := "38c112754b1b820fbdc963e20b7fe48432db272aa03953b08dee68a0463d84bc", func := "abecedary/abecedarylaw16.StateLoads", spec := "stateLoads", inPlace := ["internal/bytealg.abigen_runtime_cmpstring"], unfollowed := true, recurses := true, named := ["abecedary/letters.least"], plainKeys := false, apart := false, laid := [("abecedary/letters.least", laid_abecedary_letters_least)], narrowed := true }
def StateLoadsUptoSaid : Prop := stateLoadsUptoRow.holds Tryz.pinned (OpenSpec.upto stateLoadsSpec)

/-- 'abecedarylaw16.StateBack', WHERE WHAT IT READS IS OF BULK AT MOST 1048576: true; the input reads as it did. -/
def stateBackUptoRow : OpenClaim := { program := "ytbijfoeaemceiaagreatdoor", sum := "38c112754b1b820fbdc963e20b7fe48432db272aa03953b08dee68a0463d84bc", func := "abecedary/abecedarylaw16.StateBack", spec := "stateBack", inPlace := ["internal/bytealg.abigen_runtime_cmpstring"], unfollowed := true, recurses := true, named := ["abecedary/letters.least"], plainKeys := false, apart := false, laid := [("abecedary/letters.least", laid_abecedary_letters_least)], narrowed := true }
def StateBackUptoSaid : Prop := stateBackUptoRow.holds Tryz.pinned (OpenSpec.upto stateBackSpec)

/-- 'abecedarylaw16.StateSuggests', WHERE WHAT IT READS IS OF BULK AT MOST 1048576: true; the input reads as it did. -/
def stateSuggestsUptoRow : OpenClaim := { program := "ytbijfoeaemceiaagreatdoor", sum := "38c112754b1b820fbdc963e20b7fe48432db272aa03953b08dee68a0463d84bc", func := "abecedary/abecedarylaw16.StateSuggests", spec := "stateSuggests", inPlace := ["internal/bytealg.abigen_runtime_cmpstring"], unfollowed := true, recurses := true, named := ["abecedary/letters.least"], plainKeys := false, apart := false, laid := [("abecedary/letters.least", laid_abecedary_letters_least)], narrowed := true }
def StateSuggestsUptoSaid : Prop := stateSuggestsUptoRow.holds Tryz.pinned (OpenSpec.upto stateSuggestsSpec)

/-- 'abecedarytop.AbecedaryBest', WHERE WHAT IT READS IS OF BULK AT MOST 1048576: true; the input reads as it did. -/
def abecedaryBestUptoRow : OpenClaim := { program := "ytbijfoeaemceiaagreatdoor", sum := "38c112754b1b820fbdc963e20b7fe48432db272aa03953b08dee68a0463d84bc", func := "abecedary/abecedarytop.AbecedaryBest", spec := "abecedaryBest", inPlace := ["internal/bytealg.abigen_runtime_cmpstring"], unfollowed := true, recurses := true, named := ["abecedary/letters.least"], plainKeys := false, apart := false, laid := [("abecedary/letters.least", laid_abecedary_letters_least)], narrowed := true }
def AbecedaryBestUptoSaid : Prop := abecedaryBestUptoRow.holds Tryz.pinned (OpenSpec.upto abecedaryBestSpec)

/-- 'abecedarytop.AbecedaryShips', WHERE WHAT IT READS IS OF BULK AT MOST 1048576: true; the input reads as it did. -/
def abecedaryShipsUptoRow : OpenClaim := { program := "ytbijfoeaemceiaagreatdoor", sum := "38c112754b1b820fbdc963e20b7fe48432db272aa03953b08dee68a0463d84bc", func := "abecedary/abecedarytop.AbecedaryShips", spec := "abecedaryShips", inPlace := ["internal/bytealg.abigen_runtime_cmpstring"], unfollowed := true, recurses := true, named := ["abecedary/letters.least"], plainKeys := false, apart := false, laid := [("abecedary/letters.least", laid_abecedary_letters_least)], narrowed := true }
def AbecedaryShipsUptoSaid : Prop := abecedaryShipsUptoRow.holds Tryz.pinned (OpenSpec.upto abecedaryShipsSpec)

end Rows
end Go.Proofs.YtbijfoeaemceiaaGreatDoor
