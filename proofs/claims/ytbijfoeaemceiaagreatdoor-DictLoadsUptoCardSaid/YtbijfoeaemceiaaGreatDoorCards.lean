/-
  DERIVED. GIVEN WITH THE SEED: THE CARDS: each row of YtbijfoeaemceiaaGreatDoorRows.lean that lists a variable, with what it lists TIED to the program's text (the seventh form; the later family's looks); each row that meets fmt, with fmt's text TOLD by the authors' own Lean function (tested against real Go, not proved from fmt's source: count such statements apart). THE CARD IS WHAT COUNTS. Prove the row's statement (the work); the ties are given (YtbijfoeaemceiaaGreatDoorTie.lean); close each card by the builder's one call (the guide's Derived/Test/ToyasCard.lean, 'card_holds'). Laid BY PROGRAM, IN A SANDBOX (cutbox-door.mjs). By AI agents, Wed Nov 11 2026. No macro, syntax, notation, axiom, sorry.
-/
import Derived.Test.YtbijfoeaemceiaaGreatDoorRows
import GoSem.ClaimSeven
namespace Go.Proofs.YtbijfoeaemceiaaGreatDoor
namespace Rows

/-- THE TIED CARD OF 'abecedarylaw14.DictLoads'. -/
def dictLoadsCard : Claim7 := { stood := { row := dictLoadsRow, standIns := [], harness := (true, "00ccd79a565a1189bd56b24fd67769181e5b8d84b6a2f81bd3ee43368d2ad97e"), looks := true }, kinds := [], alts := [], laidByText := true, laidKinds := [.data], laidTests := true, laidLooks := .later }
def DictLoadsCardSaid : Prop := Claim7.holds Tryz.pinned (.plain (OpenSpec.ofChange dictLoadsSpec)) dictLoadsCard

/-- THE TIED CARD OF 'abecedarylaw14.DictWeighs'. -/
def dictWeighsCard : Claim7 := { stood := { row := dictWeighsRow, standIns := [], harness := (true, "00ccd79a565a1189bd56b24fd67769181e5b8d84b6a2f81bd3ee43368d2ad97e"), looks := true }, kinds := [], alts := [], laidByText := true, laidKinds := [.data], laidTests := true, laidLooks := .later }
def DictWeighsCardSaid : Prop := Claim7.holds Tryz.pinned (.plain (OpenSpec.ofChange dictWeighsSpec)) dictWeighsCard

/-- THE TIED CARD OF 'abecedarylaw14.DictSuggests'. -/
def dictSuggestsCard : Claim7 := { stood := { row := dictSuggestsRow, standIns := [], harness := (true, "00ccd79a565a1189bd56b24fd67769181e5b8d84b6a2f81bd3ee43368d2ad97e"), looks := true }, kinds := [], alts := [], laidByText := true, laidKinds := [.data], laidTests := true, laidLooks := .later }
def DictSuggestsCardSaid : Prop := Claim7.holds Tryz.pinned (.plain (OpenSpec.ofChange dictSuggestsSpec)) dictSuggestsCard

/-- THE TIED CARD OF 'abecedarylaw14.DictMachine'. -/
def dictMachineCard : Claim7 := { stood := { row := dictMachineRow, standIns := [], harness := (true, "00ccd79a565a1189bd56b24fd67769181e5b8d84b6a2f81bd3ee43368d2ad97e"), looks := true }, kinds := [], alts := [], laidByText := true, laidKinds := [.data], laidTests := true, laidLooks := .later }
def DictMachineCardSaid : Prop := Claim7.holds Tryz.pinned (.plain (OpenSpec.ofChange dictMachineSpec)) dictMachineCard

/-- THE TIED CARD OF 'abecedarylaw14.DictOthers'. -/
def dictOthersCard : Claim7 := { stood := { row := dictOthersRow, standIns := [], harness := (true, "00ccd79a565a1189bd56b24fd67769181e5b8d84b6a2f81bd3ee43368d2ad97e"), looks := true }, kinds := [], alts := [], laidByText := true, laidKinds := [.data], laidTests := true, laidLooks := .later }
def DictOthersCardSaid : Prop := Claim7.holds Tryz.pinned (.plain (OpenSpec.ofChange dictOthersSpec)) dictOthersCard

/-- THE TIED CARD OF 'abecedarylaw14.DictFull'. -/
def dictFullCard : Claim7 := { stood := { row := dictFullRow, standIns := [], harness := (true, "00ccd79a565a1189bd56b24fd67769181e5b8d84b6a2f81bd3ee43368d2ad97e"), looks := true }, kinds := [], alts := [], laidByText := true, laidKinds := [.data], laidTests := true, laidLooks := .later }
def DictFullCardSaid : Prop := Claim7.holds Tryz.pinned (.plain (OpenSpec.ofChange dictFullSpec)) dictFullCard

/-- THE TIED CARD OF 'abecedarylaw14.DictAll'. -/
def dictAllCard : Claim7 := { stood := { row := dictAllRow, standIns := [], harness := (true, "00ccd79a565a1189bd56b24fd67769181e5b8d84b6a2f81bd3ee43368d2ad97e"), looks := true }, kinds := [], alts := [], laidByText := true, laidKinds := [.data], laidTests := true, laidLooks := .later }
def DictAllCardSaid : Prop := Claim7.holds Tryz.pinned (.plain (OpenSpec.ofChange dictAllSpec)) dictAllCard

/-- THE TIED CARD OF 'abecedarylaw14.DictCompacts'. -/
def dictCompactsCard : Claim7 := { stood := { row := dictCompactsRow, standIns := [], harness := (true, "00ccd79a565a1189bd56b24fd67769181e5b8d84b6a2f81bd3ee43368d2ad97e"), looks := true }, kinds := [], alts := [], laidByText := true, laidKinds := [.data], laidTests := true, laidLooks := .later }
def DictCompactsCardSaid : Prop := Claim7.holds Tryz.pinned (.plain (OpenSpec.ofChange dictCompactsSpec)) dictCompactsCard

/-- THE TIED CARD OF 'abecedarylaw14.DictApart'. -/
def dictApartCard : Claim7 := { stood := { row := dictApartRow, standIns := [], harness := (true, "00ccd79a565a1189bd56b24fd67769181e5b8d84b6a2f81bd3ee43368d2ad97e"), looks := true }, kinds := [], alts := [], laidByText := true, laidKinds := [.data], laidTests := true, laidLooks := .later }
def DictApartCardSaid : Prop := Claim7.holds Tryz.pinned (.plain (OpenSpec.ofChange dictApartSpec)) dictApartCard

/-- THE TIED CARD OF 'abecedarylaw16.StateImages'. -/
def stateImagesCard : Claim7 := { stood := { row := stateImagesRow, standIns := [], harness := (true, "00ccd79a565a1189bd56b24fd67769181e5b8d84b6a2f81bd3ee43368d2ad97e"), looks := true }, kinds := [], alts := [], laidByText := true, laidKinds := [.data], laidTests := true, laidLooks := .later }
def StateImagesCardSaid : Prop := Claim7.holds Tryz.pinned (.plain (OpenSpec.ofChange stateImagesSpec)) stateImagesCard

/-- THE TIED CARD OF 'abecedarylaw16.StateLoads'. -/
def stateLoadsCard : Claim7 := { stood := { row := stateLoadsRow, standIns := [], harness := (true, "00ccd79a565a1189bd56b24fd67769181e5b8d84b6a2f81bd3ee43368d2ad97e"), looks := true }, kinds := [], alts := [], laidByText := true, laidKinds := [.data], laidTests := true, laidLooks := .later }
def StateLoadsCardSaid : Prop := Claim7.holds Tryz.pinned (.plain (OpenSpec.ofChange stateLoadsSpec)) stateLoadsCard

/-- THE TIED CARD OF 'abecedarylaw16.StateBack'. -/
def stateBackCard : Claim7 := { stood := { row := stateBackRow, standIns := [], harness := (true, "00ccd79a565a1189bd56b24fd67769181e5b8d84b6a2f81bd3ee43368d2ad97e"), looks := true }, kinds := [], alts := [], laidByText := true, laidKinds := [.data], laidTests := true, laidLooks := .later }
def StateBackCardSaid : Prop := Claim7.holds Tryz.pinned (.plain (OpenSpec.ofChange stateBackSpec)) stateBackCard

/-- THE TIED CARD OF 'abecedarylaw16.StateSuggests'. -/
def stateSuggestsCard : Claim7 := { stood := { row := stateSuggestsRow, standIns := [], harness := (true, "00ccd79a565a1189bd56b24fd67769181e5b8d84b6a2f81bd3ee43368d2ad97e"), looks := true }, kinds := [], alts := [], laidByText := true, laidKinds := [.data], laidTests := true, laidLooks := .later }
def StateSuggestsCardSaid : Prop := Claim7.holds Tryz.pinned (.plain (OpenSpec.ofChange stateSuggestsSpec)) stateSuggestsCard

/-- THE TIED CARD OF 'abecedarytop.AbecedaryBest'. -/
def abecedaryBestCard : Claim7 := { stood := { row := abecedaryBestRow, standIns := [], harness := (true, "00ccd79a565a1189bd56b24fd67769181e5b8d84b6a2f81bd3ee43368d2ad97e"), looks := true }, kinds := [], alts := [], laidByText := true, laidKinds := [.data], laidTests := true, laidLooks := .later }
def AbecedaryBestCardSaid : Prop := Claim7.holds Tryz.pinned (.plain (OpenSpec.ofChange abecedaryBestSpec)) abecedaryBestCard

/-- THE TIED CARD OF 'abecedarytop.AbecedaryShips'. -/
def abecedaryShipsCard : Claim7 := { stood := { row := abecedaryShipsRow, standIns := [], harness := (true, "00ccd79a565a1189bd56b24fd67769181e5b8d84b6a2f81bd3ee43368d2ad97e"), looks := true }, kinds := [], alts := [], laidByText := true, laidKinds := [.data], laidTests := true, laidLooks := .later }
def AbecedaryShipsCardSaid : Prop := Claim7.holds Tryz.pinned (.plain (OpenSpec.ofChange abecedaryShipsSpec)) abecedaryShipsCard

/-- THE SECOND FORM's CARD OF 'abecedarylaw14.DictLoads'. -/
def dictLoadsUptoCard : Claim7 := { stood := { row := dictLoadsUptoRow, standIns := [], harness := (true, "00ccd79a565a1189bd56b24fd67769181e5b8d84b6a2f81bd3ee43368d2ad97e"), looks := true }, kinds := [], alts := [], laidByText := true, laidKinds := [.data], laidTests := true, laidLooks := .later }
def DictLoadsUptoCardSaid : Prop := Claim7.holds Tryz.pinned (.plain (OpenSpec.upto dictLoadsSpec)) dictLoadsUptoCard

/-- THE SECOND FORM's CARD OF 'abecedarylaw14.DictWeighs'. -/
def dictWeighsUptoCard : Claim7 := { stood := { row := dictWeighsUptoRow, standIns := [], harness := (true, "00ccd79a565a1189bd56b24fd67769181e5b8d84b6a2f81bd3ee43368d2ad97e"), looks := true }, kinds := [], alts := [], laidByText := true, laidKinds := [.data], laidTests := true, laidLooks := .later }
def DictWeighsUptoCardSaid : Prop := Claim7.holds Tryz.pinned (.plain (OpenSpec.upto dictWeighsSpec)) dictWeighsUptoCard

/-- THE SECOND FORM's CARD OF 'abecedarylaw14.DictSuggests'. -/
def dictSuggestsUptoCard : Claim7 := { stood := { row := dictSuggestsUptoRow, standIns := [], harness := (true, "00ccd79a565a1189bd56b24fd67769181e5b8d84b6a2f81bd3ee43368d2ad97e"), looks := true }, kinds := [], alts := [], laidByText := true, laidKinds := [.data], laidTests := true, laidLooks := .later }
def DictSuggestsUptoCardSaid : Prop := Claim7.holds Tryz.pinned (.plain (OpenSpec.upto dictSuggestsSpec)) dictSuggestsUptoCard

/-- THE SECOND FORM's CARD OF 'abecedarylaw14.DictMachine'. -/
def dictMachineUptoCard : Claim7 := { stood := { row := dictMachineUptoRow, standIns := [], harness := (true, "00ccd79a565a1189bd56b24fd67769181e5b8d84b6a2f81bd3ee43368d2ad97e"), looks := true }, kinds := [], alts := [], laidByText := true, laidKinds := [.data], laidTests := true, laidLooks := .later }
def DictMachineUptoCardSaid : Prop := Claim7.holds Tryz.pinned (.plain (OpenSpec.upto dictMachineSpec)) dictMachineUptoCard

/-- THE SECOND FORM's CARD OF 'abecedarylaw14.DictOthers'. -/
def dictOthersUptoCard : Claim7 := { stood := { row := dictOthersUptoRow, standIns := [], harness := (true, "00ccd79a565a1189bd56b24fd67769181e5b8d84b6a2f81bd3ee43368d2ad97e"), looks := true }, kinds := [], alts := [], laidByText := true, laidKinds := [.data], laidTests := true, laidLooks := .later }
def DictOthersUptoCardSaid : Prop := Claim7.holds Tryz.pinned (.plain (OpenSpec.upto dictOthersSpec)) dictOthersUptoCard

/-- THE SECOND FORM's CARD OF 'abecedarylaw14.DictFull'. -/
def dictFullUptoCard : Claim7 := { stood := { row := dictFullUptoRow, standIns := [], harness := (true, "00ccd79a565a1189bd56b24fd67769181e5b8d84b6a2f81bd3ee43368d2ad97e"), looks := true }, kinds := [], alts := [], laidByText := true, laidKinds := [.data], laidTests := true, laidLooks := .later }
def DictFullUptoCardSaid : Prop := Claim7.holds Tryz.pinned (.plain (OpenSpec.upto dictFullSpec)) dictFullUptoCard

/-- THE SECOND FORM's CARD OF 'abecedarylaw14.DictAll'. -/
def dictAllUptoCard : Claim7 := { stood := { row := dictAllUptoRow, standIns := [], harness := (true, "00ccd79a565a1189bd56b24fd67769181e5b8d84b6a2f81bd3ee43368d2ad97e"), looks := true }, kinds := [], alts := [], laidByText := true, laidKinds := [.data], laidTests := true, laidLooks := .later }
def DictAllUptoCardSaid : Prop := Claim7.holds Tryz.pinned (.plain (OpenSpec.upto dictAllSpec)) dictAllUptoCard

/-- THE SECOND FORM's CARD OF 'abecedarylaw14.DictCompacts'. -/
def dictCompactsUptoCard : Claim7 := { stood := { row := dictCompactsUptoRow, standIns := [], harness := (true, "00ccd79a565a1189bd56b24fd67769181e5b8d84b6a2f81bd3ee43368d2ad97e"), looks := true }, kinds := [], alts := [], laidByText := true, laidKinds := [.data], laidTests := true, laidLooks := .later }
def DictCompactsUptoCardSaid : Prop := Claim7.holds Tryz.pinned (.plain (OpenSpec.upto dictCompactsSpec)) dictCompactsUptoCard

/-- THE SECOND FORM's CARD OF 'abecedarylaw14.DictApart'. -/
def dictApartUptoCard : Claim7 := { stood := { row := dictApartUptoRow, standIns := [], harness := (true, "00ccd79a565a1189bd56b24fd67769181e5b8d84b6a2f81bd3ee43368d2ad97e"), looks := true }, kinds := [], alts := [], laidByText := true, laidKinds := [.data], laidTests := true, laidLooks := .later }
def DictApartUptoCardSaid : Prop := Claim7.holds Tryz.pinned (.plain (OpenSpec.upto dictApartSpec)) dictApartUptoCard

/-- THE SECOND FORM's CARD OF 'abecedarylaw16.StateImages'. -/
def stateImagesUptoCard : Claim7 := { stood := { row := stateImagesUptoRow, standIns := [], harness := (true, "00ccd79a565a1189bd56b24fd67769181e5b8d84b6a2f81bd3ee43368d2ad97e"), looks := true }, kinds := [], alts := [], laidByText := true, laidKinds := [.data], laidTests := true, laidLooks := .later }
def StateImagesUptoCardSaid : Prop := Claim7.holds Tryz.pinned (.plain (OpenSpec.upto stateImagesSpec)) stateImagesUptoCard

/-- THE SECOND FORM's CARD OF 'abecedarylaw16.StateLoads'. -/
def stateLoadsUptoCard : Claim7 := { stood := { row := stateLoadsUptoRow, standIns := [], harness := (true, "00ccd79a565a1189bd56b24fd67769181e5b8d84b6a2f81bd3ee43368d2ad97e"), looks := true }, kinds := [], alts := [], laidByText := true, laidKinds := [.data], laidTests := true, laidLooks := .later }
def StateLoadsUptoCardSaid : Prop := Claim7.holds Tryz.pinned (.plain (OpenSpec.upto stateLoadsSpec)) stateLoadsUptoCard

/-- THE SECOND FORM's CARD OF 'abecedarylaw16.StateBack'. -/
def stateBackUptoCard : Claim7 := { stood := { row := stateBackUptoRow, standIns := [], harness := (true, "00ccd79a565a1189bd56b24fd67769181e5b8d84b6a2f81bd3ee43368d2ad97e"), looks := true }, kinds := [], alts := [], laidByText := true, laidKinds := [.data], laidTests := true, laidLooks := .later }
def StateBackUptoCardSaid : Prop := Claim7.holds Tryz.pinned (.plain (OpenSpec.upto stateBackSpec)) stateBackUptoCard

/-- THE SECOND FORM's CARD OF 'abecedarylaw16.StateSuggests'. -/
def stateSuggestsUptoCard : Claim7 := { stood := { row := stateSuggestsUptoRow, standIns := [], harness := (true, "00ccd79a565a1189bd56b24fd67769181e5b8d84b6a2f81bd3ee43368d2ad97e"), looks := true }, kinds := [], alts := [], laidByText := true, laidKinds := [.data], laidTests := true, laidLooks := .later }
def StateSuggestsUptoCardSaid : Prop := Claim7.holds Tryz.pinned (.plain (OpenSpec.upto stateSuggestsSpec)) stateSuggestsUptoCard

/-- THE SECOND FORM's CARD OF 'abecedarytop.AbecedaryBest'. -/
def abecedaryBestUptoCard : Claim7 := { stood := { row := abecedaryBestUptoRow, standIns := [], harness := (true, "00ccd79a565a1189bd56b24fd67769181e5b8d84b6a2f81bd3ee43368d2ad97e"), looks := true }, kinds := [], alts := [], laidByText := true, laidKinds := [.data], laidTests := true, laidLooks := .later }
def AbecedaryBestUptoCardSaid : Prop := Claim7.holds Tryz.pinned (.plain (OpenSpec.upto abecedaryBestSpec)) abecedaryBestUptoCard

/-- THE SECOND FORM's CARD OF 'abecedarytop.AbecedaryShips'. -/
def abecedaryShipsUptoCard : Claim7 := { stood := { row := abecedaryShipsUptoRow, standIns := [], harness := (true, "00ccd79a565a1189bd56b24fd67769181e5b8d84b6a2f81bd3ee43368d2ad97e"), looks := true }, kinds := [], alts := [], laidByText := true, laidKinds := [.data], laidTests := true, laidLooks := .later }
def AbecedaryShipsUptoCardSaid : Prop := Claim7.holds Tryz.pinned (.plain (OpenSpec.upto abecedaryShipsSpec)) abecedaryShipsUptoCard
end Rows
end Go.Proofs.YtbijfoeaemceiaaGreatDoor
