/-
  DERIVED. GIVEN WITH THE SEED: THE CARDS: each row of YthockgmbooefpaaGreatDoorRows.lean that lists a variable, with what it lists TIED to the program's text (the seventh form; the later family's looks); each row that meets fmt, with fmt's text TOLD by the authors' own Lean function (tested against real Go, not proved from fmt's source: count such statements apart). THE CARD IS WHAT COUNTS. Prove the row's statement (the work); the ties are given (YthockgmbooefpaaGreatDoorTie.lean); close each card by the builder's one call (the guide's Derived/Test/ToyasCard.lean, 'card_holds'). Laid BY PROGRAM, IN A SANDBOX (cutbox-door.mjs). By AI agents, Wed Nov 11 2026. No macro, syntax, notation, axiom, sorry.
-/
import Derived.Test.YthockgmbooefpaaGreatDoorRows
import GoSem.ClaimSeven
namespace Go.Proofs.YthockgmbooefpaaGreatDoor
namespace Rows

/-- THE TIED CARD OF 'abecedarytop.AbecedaryBest'. -/
def abecedaryBestCard : Claim7 := { stood := { row := abecedaryBestRow, standIns := [], harness := (true, "b77970bafad3625c7a6c41321677aa064966117ab5676fe04803710f66b42c4f"), looks := true }, kinds := [], alts := [], laidByText := true, laidKinds := [.data], laidTests := true, laidLooks := .later }
def AbecedaryBestCardSaid : Prop := Claim7.holds Tryz.pinned (.plain (OpenSpec.ofChange abecedaryBestSpec)) abecedaryBestCard

/-- THE TIED CARD OF 'abecedarytop.AbecedaryShips'. -/
def abecedaryShipsCard : Claim7 := { stood := { row := abecedaryShipsRow, standIns := [], harness := (true, "b77970bafad3625c7a6c41321677aa064966117ab5676fe04803710f66b42c4f"), looks := true }, kinds := [], alts := [], laidByText := true, laidKinds := [.data], laidTests := true, laidLooks := .later }
def AbecedaryShipsCardSaid : Prop := Claim7.holds Tryz.pinned (.plain (OpenSpec.ofChange abecedaryShipsSpec)) abecedaryShipsCard

/-- THE TIED CARD OF 'abecedarylaw16.StateImages'. -/
def stateImagesCard : Claim7 := { stood := { row := stateImagesRow, standIns := [], harness := (true, "b77970bafad3625c7a6c41321677aa064966117ab5676fe04803710f66b42c4f"), looks := true }, kinds := [], alts := [], laidByText := true, laidKinds := [.data], laidTests := true, laidLooks := .later }
def StateImagesCardSaid : Prop := Claim7.holds Tryz.pinned (.plain (OpenSpec.ofChange stateImagesSpec)) stateImagesCard

/-- THE TIED CARD OF 'abecedarylaw16.StateLoads'. -/
def stateLoadsCard : Claim7 := { stood := { row := stateLoadsRow, standIns := [], harness := (true, "b77970bafad3625c7a6c41321677aa064966117ab5676fe04803710f66b42c4f"), looks := true }, kinds := [], alts := [], laidByText := true, laidKinds := [.data], laidTests := true, laidLooks := .later }
def StateLoadsCardSaid : Prop := Claim7.holds Tryz.pinned (.plain (OpenSpec.ofChange stateLoadsSpec)) stateLoadsCard

/-- THE TIED CARD OF 'abecedarylaw16.StateBack'. -/
def stateBackCard : Claim7 := { stood := { row := stateBackRow, standIns := [], harness := (true, "b77970bafad3625c7a6c41321677aa064966117ab5676fe04803710f66b42c4f"), looks := true }, kinds := [], alts := [], laidByText := true, laidKinds := [.data], laidTests := true, laidLooks := .later }
def StateBackCardSaid : Prop := Claim7.holds Tryz.pinned (.plain (OpenSpec.ofChange stateBackSpec)) stateBackCard

/-- THE TIED CARD OF 'abecedarylaw16.StateSuggests'. -/
def stateSuggestsCard : Claim7 := { stood := { row := stateSuggestsRow, standIns := [], harness := (true, "b77970bafad3625c7a6c41321677aa064966117ab5676fe04803710f66b42c4f"), looks := true }, kinds := [], alts := [], laidByText := true, laidKinds := [.data], laidTests := true, laidLooks := .later }
def StateSuggestsCardSaid : Prop := Claim7.holds Tryz.pinned (.plain (OpenSpec.ofChange stateSuggestsSpec)) stateSuggestsCard

/-- THE SECOND FORM's CARD OF 'abecedarytop.AbecedaryBest'. -/
def abecedaryBestUptoCard : Claim7 := { stood := { row := abecedaryBestUptoRow, standIns := [], harness := (true, "b77970bafad3625c7a6c41321677aa064966117ab5676fe04803710f66b42c4f"), looks := true }, kinds := [], alts := [], laidByText := true, laidKinds := [.data], laidTests := true, laidLooks := .later }
def AbecedaryBestUptoCardSaid : Prop := Claim7.holds Tryz.pinned (.plain (OpenSpec.upto abecedaryBestSpec)) abecedaryBestUptoCard

/-- THE SECOND FORM's CARD OF 'abecedarytop.AbecedaryShips'. -/
def abecedaryShipsUptoCard : Claim7 := { stood := { row := abecedaryShipsUptoRow, standIns := [], harness := (true, "b77970bafad3625c7a6c41321677aa064966117ab5676fe04803710f66b42c4f"), looks := true }, kinds := [], alts := [], laidByText := true, laidKinds := [.data], laidTests := true, laidLooks := .later }
def AbecedaryShipsUptoCardSaid : Prop := Claim7.holds Tryz.pinned (.plain (OpenSpec.upto abecedaryShipsSpec)) abecedaryShipsUptoCard

/-- THE SECOND FORM's CARD OF 'abecedarylaw16.StateImages'. -/
def stateImagesUptoCard : Claim7 := { stood := { row := stateImagesUptoRow, standIns := [], harness := (true, "b77970bafad3625c7a6c41321677aa064966117ab5676fe04803710f66b42c4f"), looks := true }, kinds := [], alts := [], laidByText := true, laidKinds := [.data], laidTests := true, laidLooks := .later }
def StateImagesUptoCardSaid : Prop := Claim7.holds Tryz.pinned (.plain (OpenSpec.upto stateImagesSpec)) stateImagesUptoCard

/-- THE SECOND FORM's CARD OF 'abecedarylaw16.StateLoads'. -/
def stateLoadsUptoCard : Claim7 := { stood := { row := stateLoadsUptoRow, standIns := [], harness := (true, "b77970bafad3625c7a6c41321677aa064966117ab5676fe04803710f66b42c4f"), looks := true }, kinds := [], alts := [], laidByText := true, laidKinds := [.data], laidTests := true, laidLooks := .later }
def StateLoadsUptoCardSaid : Prop := Claim7.holds Tryz.pinned (.plain (OpenSpec.upto stateLoadsSpec)) stateLoadsUptoCard

/-- THE SECOND FORM's CARD OF 'abecedarylaw16.StateBack'. -/
def stateBackUptoCard : Claim7 := { stood := { row := stateBackUptoRow, standIns := [], harness := (true, "b77970bafad3625c7a6c41321677aa064966117ab5676fe04803710f66b42c4f"), looks := true }, kinds := [], alts := [], laidByText := true, laidKinds := [.data], laidTests := true, laidLooks := .later }
def StateBackUptoCardSaid : Prop := Claim7.holds Tryz.pinned (.plain (OpenSpec.upto stateBackSpec)) stateBackUptoCard

/-- THE SECOND FORM's CARD OF 'abecedarylaw16.StateSuggests'. -/
def stateSuggestsUptoCard : Claim7 := { stood := { row := stateSuggestsUptoRow, standIns := [], harness := (true, "b77970bafad3625c7a6c41321677aa064966117ab5676fe04803710f66b42c4f"), looks := true }, kinds := [], alts := [], laidByText := true, laidKinds := [.data], laidTests := true, laidLooks := .later }
def StateSuggestsUptoCardSaid : Prop := Claim7.holds Tryz.pinned (.plain (OpenSpec.upto stateSuggestsSpec)) stateSuggestsUptoCard
end Rows
end Go.Proofs.YthockgmbooefpaaGreatDoor
