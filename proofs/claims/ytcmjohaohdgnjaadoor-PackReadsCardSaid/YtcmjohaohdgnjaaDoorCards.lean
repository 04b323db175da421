/-
  DERIVED. GIVEN WITH THE SEED: THE CARDS: each row of YtcmjohaohdgnjaaDoorRows.lean that lists a variable, with what it lists TIED to the program's text (the seventh form; the later family's looks); each row that meets fmt, with fmt's text TOLD by the authors' own Lean function (tested against real Go, not proved from fmt's source: count such statements apart). THE CARD IS WHAT COUNTS. Prove the row's statement (the work); the ties are given (YtcmjohaohdgnjaaDoorTie.lean); close each card by the builder's one call (the guide's Derived/Test/ToyasCard.lean, 'card_holds'). Laid BY PROGRAM, IN A SANDBOX (cutbox-door.mjs). By AI agents, Wed Nov 11 2026. No macro, syntax, notation, axiom, sorry.
-/
import Derived.Test.YtcmjohaohdgnjaaDoorRows
import GoSem.ClaimSeven
namespace Go.Proofs.YtcmjohaohdgnjaaDoor
namespace Rows

/-- THE TIED CARD OF 'abecedarylaw08.PackRight'. -/
def packRightCard : Claim7 := { stood := { row := packRightRow, standIns := [], harness := (true, "9ce3b4a72bcf906cebb378ca720779db8f1b39fcf2095b0e705061af06163ca6"), looks := false }, kinds := [], alts := [], laidByText := true, laidKinds := [.data], laidTests := true, laidLooks := .later }
def PackRightCardSaid : Prop := Claim7.holds Tryd.pinned (.plain (OpenSpec.ofChange packRightSpec)) packRightCard

/-- THE TIED CARD OF 'abecedarylaw08.PackBuilt'. -/
def packBuiltCard : Claim7 := { stood := { row := packBuiltRow, standIns := [], harness := (true, "9ce3b4a72bcf906cebb378ca720779db8f1b39fcf2095b0e705061af06163ca6"), looks := false }, kinds := [], alts := [], laidByText := true, laidKinds := [.data], laidTests := true, laidLooks := .later }
def PackBuiltCardSaid : Prop := Claim7.holds Tryd.pinned (.plain (OpenSpec.ofChange packBuiltSpec)) packBuiltCard

/-- THE TIED CARD OF 'abecedarylaw08.PackWrites'. -/
def packWritesCard : Claim7 := { stood := { row := packWritesRow, standIns := [], harness := (true, "9ce3b4a72bcf906cebb378ca720779db8f1b39fcf2095b0e705061af06163ca6"), looks := false }, kinds := [], alts := [], laidByText := true, laidKinds := [.data], laidTests := true, laidLooks := .later }
def PackWritesCardSaid : Prop := Claim7.holds Tryd.pinned (.plain (OpenSpec.ofChange packWritesSpec)) packWritesCard

/-- THE TIED CARD OF 'abecedarylaw08.PackUnlike'. -/
def packUnlikeCard : Claim7 := { stood := { row := packUnlikeRow, standIns := [], harness := (true, "9ce3b4a72bcf906cebb378ca720779db8f1b39fcf2095b0e705061af06163ca6"), looks := false }, kinds := [], alts := [], laidByText := true, laidKinds := [.data], laidTests := true, laidLooks := .later }
def PackUnlikeCardSaid : Prop := Claim7.holds Tryd.pinned (.plain (OpenSpec.ofChange packUnlikeSpec)) packUnlikeCard

/-- THE TIED CARD OF 'abecedarylaw08.PackReads'. -/
def packReadsCard : Claim7 := { stood := { row := packReadsRow, standIns := [], harness := (true, "9ce3b4a72bcf906cebb378ca720779db8f1b39fcf2095b0e705061af06163ca6"), looks := false }, kinds := [], alts := [], laidByText := true, laidKinds := [.data], laidTests := true, laidLooks := .later }
def PackReadsCardSaid : Prop := Claim7.holds Tryd.pinned (.plain (OpenSpec.ofChange packReadsSpec)) packReadsCard

/-- THE TIED CARD OF 'abecedarylaw08.PackBack'. -/
def packBackCard : Claim7 := { stood := { row := packBackRow, standIns := [], harness := (true, "9ce3b4a72bcf906cebb378ca720779db8f1b39fcf2095b0e705061af06163ca6"), looks := false }, kinds := [], alts := [], laidByText := true, laidKinds := [.data], laidTests := true, laidLooks := .later }
def PackBackCardSaid : Prop := Claim7.holds Tryd.pinned (.plain (OpenSpec.ofChange packBackSpec)) packBackCard

/-- THE TIED CARD OF 'abecedarylaw08.PackAgain'. -/
def packAgainCard : Claim7 := { stood := { row := packAgainRow, standIns := [], harness := (true, "9ce3b4a72bcf906cebb378ca720779db8f1b39fcf2095b0e705061af06163ca6"), looks := false }, kinds := [], alts := [], laidByText := true, laidKinds := [.data], laidTests := true, laidLooks := .later }
def PackAgainCardSaid : Prop := Claim7.holds Tryd.pinned (.plain (OpenSpec.ofChange packAgainSpec)) packAgainCard

/-- THE TIED CARD OF 'abecedarylaw08.PackCuts'. -/
def packCutsCard : Claim7 := { stood := { row := packCutsRow, standIns := [], harness := (true, "9ce3b4a72bcf906cebb378ca720779db8f1b39fcf2095b0e705061af06163ca6"), looks := false }, kinds := [], alts := [], laidByText := true, laidKinds := [.data], laidTests := true, laidLooks := .later }
def PackCutsCardSaid : Prop := Claim7.holds Tryd.pinned (.plain (OpenSpec.ofChange packCutsSpec)) packCutsCard

/-- THE SECOND FORM's CARD OF 'abecedarylaw08.PackRight'. -/
def packRightUptoCard : Claim7 := { stood := { row := packRightUptoRow, standIns := [], harness := (true, "9ce3b4a72bcf906cebb378ca720779db8f1b39fcf2095b0e705061af06163ca6"), looks := false }, kinds := [], alts := [], laidByText := true, laidKinds := [.data], laidTests := true, laidLooks := .later }
def PackRightUptoCardSaid : Prop := Claim7.holds Tryd.pinned (.plain (OpenSpec.upto packRightSpec)) packRightUptoCard

/-- THE SECOND FORM's CARD OF 'abecedarylaw08.PackBuilt'. -/
def packBuiltUptoCard : Claim7 := { stood := { row := packBuiltUptoRow, standIns := [], harness := (true, "9ce3b4a72bcf906cebb378ca720779db8f1b39fcf2095b0e705061af06163ca6"), looks := false }, kinds := [], alts := [], laidByText := true, laidKinds := [.data], laidTests := true, laidLooks := .later }
def PackBuiltUptoCardSaid : Prop := Claim7.holds Tryd.pinned (.plain (OpenSpec.upto packBuiltSpec)) packBuiltUptoCard

/-- THE SECOND FORM's CARD OF 'abecedarylaw08.PackWrites'. -/
def packWritesUptoCard : Claim7 := { stood := { row := packWritesUptoRow, standIns := [], harness := (true, "9ce3b4a72bcf906cebb378ca720779db8f1b39fcf2095b0e705061af06163ca6"), looks := false }, kinds := [], alts := [], laidByText := true, laidKinds := [.data], laidTests := true, laidLooks := .later }
def PackWritesUptoCardSaid : Prop := Claim7.holds Tryd.pinned (.plain (OpenSpec.upto packWritesSpec)) packWritesUptoCard

/-- THE SECOND FORM's CARD OF 'abecedarylaw08.PackUnlike'. -/
def packUnlikeUptoCard : Claim7 := { stood := { row := packUnlikeUptoRow, standIns := [], harness := (true, "9ce3b4a72bcf906cebb378ca720779db8f1b39fcf2095b0e705061af06163ca6"), looks := false }, kinds := [], alts := [], laidByText := true, laidKinds := [.data], laidTests := true, laidLooks := .later }
def PackUnlikeUptoCardSaid : Prop := Claim7.holds Tryd.pinned (.plain (OpenSpec.upto packUnlikeSpec)) packUnlikeUptoCard

/-- THE SECOND FORM's CARD OF 'abecedarylaw08.PackReads'. -/
def packReadsUptoCard : Claim7 := { stood := { row := packReadsUptoRow, standIns := [], harness := (true, "9ce3b4a72bcf906cebb378ca720779db8f1b39fcf2095b0e705061af06163ca6"), looks := false }, kinds := [], alts := [], laidByText := true, laidKinds := [.data], laidTests := true, laidLooks := .later }
def PackReadsUptoCardSaid : Prop := Claim7.holds Tryd.pinned (.plain (OpenSpec.upto packReadsSpec)) packReadsUptoCard

/-- THE SECOND FORM's CARD OF 'abecedarylaw08.PackBack'. -/
def packBackUptoCard : Claim7 := { stood := { row := packBackUptoRow, standIns := [], harness := (true, "9ce3b4a72bcf906cebb378ca720779db8f1b39fcf2095b0e705061af06163ca6"), looks := false }, kinds := [], alts := [], laidByText := true, laidKinds := [.data], laidTests := true, laidLooks := .later }
def PackBackUptoCardSaid : Prop := Claim7.holds Tryd.pinned (.plain (OpenSpec.upto packBackSpec)) packBackUptoCard

/-- THE SECOND FORM's CARD OF 'abecedarylaw08.PackAgain'. -/
def packAgainUptoCard : Claim7 := { stood := { row := packAgainUptoRow, standIns := [], harness := (true, "9ce3b4a72bcf906cebb378ca720779db8f1b39fcf2095b0e705061af06163ca6"), looks := false }, kinds := [], alts := [], laidByText := true, laidKinds := [.data], laidTests := true, laidLooks := .later }
def PackAgainUptoCardSaid : Prop := Claim7.holds Tryd.pinned (.plain (OpenSpec.upto packAgainSpec)) packAgainUptoCard

/-- THE SECOND FORM's CARD OF 'abecedarylaw08.PackCuts'. -/
def packCutsUptoCard : Claim7 := { stood := { row := packCutsUptoRow, standIns := [], harness := (true, "9ce3b4a72bcf906cebb378ca720779db8f1b39fcf2095b0e705061af06163ca6"), looks := false }, kinds := [], alts := [], laidByText := true, laidKinds := [.data], laidTests := true, laidLooks := .later }
def PackCutsUptoCardSaid : Prop := Claim7.holds Tryd.pinned (.plain (OpenSpec.upto packCutsSpec)) packCutsUptoCard
end Rows
end Go.Proofs.YtcmjohaohdgnjaaDoor
