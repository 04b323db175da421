/-
  DERIVED. GIVEN WITH THE SEED: THE CARDS: each row of YtnakpadjlamdeaaDoorRows.lean that lists a variable, with what it lists TIED to the program's text (the seventh form; the later family's looks); each row that meets fmt, with fmt's text TOLD by the authors' own Lean function (tested against real Go, not proved from fmt's source: count such statements apart). THE CARD IS WHAT COUNTS. Prove the row's statement (the work); the ties are given (YtnakpadjlamdeaaDoorTie.lean); close each card by the builder's one call (the guide's Derived/Test/ToyasCard.lean, 'card_holds'). Laid BY PROGRAM, IN A SANDBOX (cutbox-door.mjs). By AI agents, Wed Nov 11 2026. No macro, syntax, notation, axiom, sorry.
-/
import Derived.Test.YtnakpadjlamdeaaDoorRows
import GoSem.ClaimSeven
namespace Go.Proofs.YtnakpadjlamdeaaDoor
namespace Rows

/-- THE TIED CARD OF 'abecedarylaw09.WalkFinds'. -/
def walkFindsCard : Claim7 := { stood := { row := walkFindsRow, standIns := [], harness := (true, "d27475dbece96526a0d5a2f7c19a1640fdf8c0c743a191610b5486da9aa639f5"), looks := false }, kinds := [], alts := [], laidByText := true, laidKinds := [.data], laidTests := true, laidLooks := .later }
def WalkFindsCardSaid : Prop := Claim7.holds Tryd.pinned (.plain (OpenSpec.ofChange walkFindsSpec)) walkFindsCard

/-- THE TIED CARD OF 'abecedarylaw09.WalkNumbers'. -/
def walkNumbersCard : Claim7 := { stood := { row := walkNumbersRow, standIns := [], harness := (true, "d27475dbece96526a0d5a2f7c19a1640fdf8c0c743a191610b5486da9aa639f5"), looks := false }, kinds := [], alts := [], laidByText := true, laidKinds := [.data], laidTests := true, laidLooks := .later }
def WalkNumbersCardSaid : Prop := Claim7.holds Tryd.pinned (.plain (OpenSpec.ofChange walkNumbersSpec)) walkNumbersCard

/-- THE TIED CARD OF 'abecedarylaw09.WalkRanks'. -/
def walkRanksCard : Claim7 := { stood := { row := walkRanksRow, standIns := [], harness := (true, "d27475dbece96526a0d5a2f7c19a1640fdf8c0c743a191610b5486da9aa639f5"), looks := false }, kinds := [], alts := [], laidByText := true, laidKinds := [.data], laidTests := true, laidLooks := .later }
def WalkRanksCardSaid : Prop := Claim7.holds Tryd.pinned (.plain (OpenSpec.ofChange walkRanksSpec)) walkRanksCard

/-- THE TIED CARD OF 'abecedarylaw09.WalkStates'. -/
def walkStatesCard : Claim7 := { stood := { row := walkStatesRow, standIns := [], harness := (true, "d27475dbece96526a0d5a2f7c19a1640fdf8c0c743a191610b5486da9aa639f5"), looks := false }, kinds := [], alts := [], laidByText := true, laidKinds := [.data], laidTests := true, laidLooks := .later }
def WalkStatesCardSaid : Prop := Claim7.holds Tryd.pinned (.plain (OpenSpec.ofChange walkStatesSpec)) walkStatesCard

/-- THE TIED CARD OF 'abecedarylaw09.WalkBegins'. -/
def walkBeginsCard : Claim7 := { stood := { row := walkBeginsRow, standIns := [], harness := (true, "d27475dbece96526a0d5a2f7c19a1640fdf8c0c743a191610b5486da9aa639f5"), looks := false }, kinds := [], alts := [], laidByText := true, laidKinds := [.data], laidTests := true, laidLooks := .later }
def WalkBeginsCardSaid : Prop := Claim7.holds Tryd.pinned (.plain (OpenSpec.ofChange walkBeginsSpec)) walkBeginsCard

/-- THE TIED CARD OF 'abecedarylaw09.WalkAll'. -/
def walkAllCard : Claim7 := { stood := { row := walkAllRow, standIns := [], harness := (true, "d27475dbece96526a0d5a2f7c19a1640fdf8c0c743a191610b5486da9aa639f5"), looks := false }, kinds := [], alts := [], laidByText := true, laidKinds := [.data], laidTests := true, laidLooks := .later }
def WalkAllCardSaid : Prop := Claim7.holds Tryd.pinned (.plain (OpenSpec.ofChange walkAllSpec)) walkAllCard

/-- THE TIED CARD OF 'abecedarylaw09.WalkKeeps'. -/
def walkKeepsCard : Claim7 := { stood := { row := walkKeepsRow, standIns := [], harness := (true, "d27475dbece96526a0d5a2f7c19a1640fdf8c0c743a191610b5486da9aa639f5"), looks := false }, kinds := [], alts := [], laidByText := true, laidKinds := [.data], laidTests := true, laidLooks := .later }
def WalkKeepsCardSaid : Prop := Claim7.holds Tryd.pinned (.plain (OpenSpec.ofChange walkKeepsSpec)) walkKeepsCard

/-- THE TIED CARD OF 'abecedarylaw09.WalkUnder'. -/
def walkUnderCard : Claim7 := { stood := { row := walkUnderRow, standIns := [], harness := (true, "d27475dbece96526a0d5a2f7c19a1640fdf8c0c743a191610b5486da9aa639f5"), looks := false }, kinds := [], alts := [], laidByText := true, laidKinds := [.data], laidTests := true, laidLooks := .later }
def WalkUnderCardSaid : Prop := Claim7.holds Tryd.pinned (.plain (OpenSpec.ofChange walkUnderSpec)) walkUnderCard

/-- THE SECOND FORM's CARD OF 'abecedarylaw09.WalkFinds'. -/
def walkFindsUptoCard : Claim7 := { stood := { row := walkFindsUptoRow, standIns := [], harness := (true, "d27475dbece96526a0d5a2f7c19a1640fdf8c0c743a191610b5486da9aa639f5"), looks := false }, kinds := [], alts := [], laidByText := true, laidKinds := [.data], laidTests := true, laidLooks := .later }
def WalkFindsUptoCardSaid : Prop := Claim7.holds Tryd.pinned (.plain (OpenSpec.upto walkFindsSpec)) walkFindsUptoCard

/-- THE SECOND FORM's CARD OF 'abecedarylaw09.WalkNumbers'. -/
def walkNumbersUptoCard : Claim7 := { stood := { row := walkNumbersUptoRow, standIns := [], harness := (true, "d27475dbece96526a0d5a2f7c19a1640fdf8c0c743a191610b5486da9aa639f5"), looks := false }, kinds := [], alts := [], laidByText := true, laidKinds := [.data], laidTests := true, laidLooks := .later }
def WalkNumbersUptoCardSaid : Prop := Claim7.holds Tryd.pinned (.plain (OpenSpec.upto walkNumbersSpec)) walkNumbersUptoCard

/-- THE SECOND FORM's CARD OF 'abecedarylaw09.WalkRanks'. -/
def walkRanksUptoCard : Claim7 := { stood := { row := walkRanksUptoRow, standIns := [], harness := (true, "d27475dbece96526a0d5a2f7c19a1640fdf8c0c743a191610b5486da9aa639f5"), looks := false }, kinds := [], alts := [], laidByText := true, laidKinds := [.data], laidTests := true, laidLooks := .later }
def WalkRanksUptoCardSaid : Prop := Claim7.holds Tryd.pinned (.plain (OpenSpec.upto walkRanksSpec)) walkRanksUptoCard

/-- THE SECOND FORM's CARD OF 'abecedarylaw09.WalkStates'. -/
def walkStatesUptoCard : Claim7 := { stood := { row := walkStatesUptoRow, standIns := [], harness := (true, "d27475dbece96526a0d5a2f7c19a1640fdf8c0c743a191610b5486da9aa639f5"), looks := false }, kinds := [], alts := [], laidByText := true, laidKinds := [.data], laidTests := true, laidLooks := .later }
def WalkStatesUptoCardSaid : Prop := Claim7.holds Tryd.pinned (.plain (OpenSpec.upto walkStatesSpec)) walkStatesUptoCard

/-- THE SECOND FORM's CARD OF 'abecedarylaw09.WalkBegins'. -/
def walkBeginsUptoCard : Claim7 := { stood := { row := walkBeginsUptoRow, standIns := [], harness := (true, "d27475dbece96526a0d5a2f7c19a1640fdf8c0c743a191610b5486da9aa639f5"), looks := false }, kinds := [], alts := [], laidByText := true, laidKinds := [.data], laidTests := true, laidLooks := .later }
def WalkBeginsUptoCardSaid : Prop := Claim7.holds Tryd.pinned (.plain (OpenSpec.upto walkBeginsSpec)) walkBeginsUptoCard

/-- THE SECOND FORM's CARD OF 'abecedarylaw09.WalkAll'. -/
def walkAllUptoCard : Claim7 := { stood := { row := walkAllUptoRow, standIns := [], harness := (true, "d27475dbece96526a0d5a2f7c19a1640fdf8c0c743a191610b5486da9aa639f5"), looks := false }, kinds := [], alts := [], laidByText := true, laidKinds := [.data], laidTests := true, laidLooks := .later }
def WalkAllUptoCardSaid : Prop := Claim7.holds Tryd.pinned (.plain (OpenSpec.upto walkAllSpec)) walkAllUptoCard

/-- THE SECOND FORM's CARD OF 'abecedarylaw09.WalkKeeps'. -/
def walkKeepsUptoCard : Claim7 := { stood := { row := walkKeepsUptoRow, standIns := [], harness := (true, "d27475dbece96526a0d5a2f7c19a1640fdf8c0c743a191610b5486da9aa639f5"), looks := false }, kinds := [], alts := [], laidByText := true, laidKinds := [.data], laidTests := true, laidLooks := .later }
def WalkKeepsUptoCardSaid : Prop := Claim7.holds Tryd.pinned (.plain (OpenSpec.upto walkKeepsSpec)) walkKeepsUptoCard

/-- THE SECOND FORM's CARD OF 'abecedarylaw09.WalkUnder'. -/
def walkUnderUptoCard : Claim7 := { stood := { row := walkUnderUptoRow, standIns := [], harness := (true, "d27475dbece96526a0d5a2f7c19a1640fdf8c0c743a191610b5486da9aa639f5"), looks := false }, kinds := [], alts := [], laidByText := true, laidKinds := [.data], laidTests := true, laidLooks := .later }
def WalkUnderUptoCardSaid : Prop := Claim7.holds Tryd.pinned (.plain (OpenSpec.upto walkUnderSpec)) walkUnderUptoCard
end Rows
end Go.Proofs.YtnakpadjlamdeaaDoor
