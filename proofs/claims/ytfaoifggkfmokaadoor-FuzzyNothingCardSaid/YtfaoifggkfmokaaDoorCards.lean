/-
  DERIVED. GIVEN WITH THE SEED: THE CARDS: each row of YtfaoifggkfmokaaDoorRows.lean that lists a variable, with what it lists TIED to the program's text (the seventh form; the later family's looks); each row that meets fmt, with fmt's text TOLD by the authors' own Lean function (tested against real Go, not proved from fmt's source: count such statements apart). THE CARD IS WHAT COUNTS. Prove the row's statement (the work); the ties are given (YtfaoifggkfmokaaDoorTie.lean); close each card by the builder's one call (the guide's Derived/Test/ToyasCard.lean, 'card_holds'). Laid BY PROGRAM, IN A SANDBOX (cutbox-door.mjs). By AI agents, Wed Nov 11 2026. No macro, syntax, notation, axiom, sorry.
-/
import Derived.Test.YtfaoifggkfmokaaDoorRows
import GoSem.ClaimSeven
namespace Go.Proofs.YtfaoifggkfmokaaDoor
namespace Rows

/-- THE TIED CARD OF 'abecedarylaw12.FuzzyAll'. -/
def fuzzyAllCard : Claim7 := { stood := { row := fuzzyAllRow, standIns := [], harness := (true, "12e625506e2b0a16e12ffc0fea83cc0c3bdff88b99dd2213afe2131135e75976"), looks := false }, kinds := [], alts := [], laidByText := true, laidKinds := [.data], laidTests := true, laidLooks := .later }
def FuzzyAllCardSaid : Prop := Claim7.holds Tryd.pinned (.plain (OpenSpec.ofChange fuzzyAllSpec)) fuzzyAllCard

/-- THE TIED CARD OF 'abecedarylaw12.FuzzyMore'. -/
def fuzzyMoreCard : Claim7 := { stood := { row := fuzzyMoreRow, standIns := [], harness := (true, "12e625506e2b0a16e12ffc0fea83cc0c3bdff88b99dd2213afe2131135e75976"), looks := false }, kinds := [], alts := [], laidByText := true, laidKinds := [.data], laidTests := true, laidLooks := .later }
def FuzzyMoreCardSaid : Prop := Claim7.holds Tryd.pinned (.plain (OpenSpec.ofChange fuzzyMoreSpec)) fuzzyMoreCard

/-- THE TIED CARD OF 'abecedarylaw12.FuzzyExact'. -/
def fuzzyExactCard : Claim7 := { stood := { row := fuzzyExactRow, standIns := [], harness := (true, "12e625506e2b0a16e12ffc0fea83cc0c3bdff88b99dd2213afe2131135e75976"), looks := false }, kinds := [], alts := [], laidByText := true, laidKinds := [.data], laidTests := true, laidLooks := .later }
def FuzzyExactCardSaid : Prop := Claim7.holds Tryd.pinned (.plain (OpenSpec.ofChange fuzzyExactSpec)) fuzzyExactCard

/-- THE TIED CARD OF 'abecedarylaw12.FuzzyMerges'. -/
def fuzzyMergesCard : Claim7 := { stood := { row := fuzzyMergesRow, standIns := [], harness := (true, "12e625506e2b0a16e12ffc0fea83cc0c3bdff88b99dd2213afe2131135e75976"), looks := false }, kinds := [], alts := [], laidByText := true, laidKinds := [.data], laidTests := true, laidLooks := .later }
def FuzzyMergesCardSaid : Prop := Claim7.holds Tryd.pinned (.plain (OpenSpec.ofChange fuzzyMergesSpec)) fuzzyMergesCard

/-- THE TIED CARD OF 'abecedarylaw12.FuzzyOver'. -/
def fuzzyOverCard : Claim7 := { stood := { row := fuzzyOverRow, standIns := [], harness := (true, "12e625506e2b0a16e12ffc0fea83cc0c3bdff88b99dd2213afe2131135e75976"), looks := false }, kinds := [], alts := [], laidByText := true, laidKinds := [.data], laidTests := true, laidLooks := .later }
def FuzzyOverCardSaid : Prop := Claim7.holds Tryd.pinned (.plain (OpenSpec.ofChange fuzzyOverSpec)) fuzzyOverCard

/-- THE TIED CARD OF 'abecedarylaw12.FuzzyNothing'. -/
def fuzzyNothingCard : Claim7 := { stood := { row := fuzzyNothingRow, standIns := [], harness := (true, "12e625506e2b0a16e12ffc0fea83cc0c3bdff88b99dd2213afe2131135e75976"), looks := false }, kinds := [], alts := [], laidByText := true, laidKinds := [.data], laidTests := true, laidLooks := .later }
def FuzzyNothingCardSaid : Prop := Claim7.holds Tryd.pinned (.plain (OpenSpec.ofChange fuzzyNothingSpec)) fuzzyNothingCard

/-- THE SECOND FORM's CARD OF 'abecedarylaw12.FuzzyAll'. -/
def fuzzyAllUptoCard : Claim7 := { stood := { row := fuzzyAllUptoRow, standIns := [], harness := (true, "12e625506e2b0a16e12ffc0fea83cc0c3bdff88b99dd2213afe2131135e75976"), looks := false }, kinds := [], alts := [], laidByText := true, laidKinds := [.data], laidTests := true, laidLooks := .later }
def FuzzyAllUptoCardSaid : Prop := Claim7.holds Tryd.pinned (.plain (OpenSpec.upto fuzzyAllSpec)) fuzzyAllUptoCard

/-- THE SECOND FORM's CARD OF 'abecedarylaw12.FuzzyMore'. -/
def fuzzyMoreUptoCard : Claim7 := { stood := { row := fuzzyMoreUptoRow, standIns := [], harness := (true, "12e625506e2b0a16e12ffc0fea83cc0c3bdff88b99dd2213afe2131135e75976"), looks := false }, kinds := [], alts := [], laidByText := true, laidKinds := [.data], laidTests := true, laidLooks := .later }
def FuzzyMoreUptoCardSaid : Prop := Claim7.holds Tryd.pinned (.plain (OpenSpec.upto fuzzyMoreSpec)) fuzzyMoreUptoCard

/-- THE SECOND FORM's CARD OF 'abecedarylaw12.FuzzyExact'. -/
def fuzzyExactUptoCard : Claim7 := { stood := { row := fuzzyExactUptoRow, standIns := [], harness := (true, "12e625506e2b0a16e12ffc0fea83cc0c3bdff88b99dd2213afe2131135e75976"), looks := false }, kinds := [], alts := [], laidByText := true, laidKinds := [.data], laidTests := true, laidLooks := .later }
def FuzzyExactUptoCardSaid : Prop := Claim7.holds Tryd.pinned (.plain (OpenSpec.upto fuzzyExactSpec)) fuzzyExactUptoCard

/-- THE SECOND FORM's CARD OF 'abecedarylaw12.FuzzyMerges'. -/
def fuzzyMergesUptoCard : Claim7 := { stood := { row := fuzzyMergesUptoRow, standIns := [], harness := (true, "12e625506e2b0a16e12ffc0fea83cc0c3bdff88b99dd2213afe2131135e75976"), looks := false }, kinds := [], alts := [], laidByText := true, laidKinds := [.data], laidTests := true, laidLooks := .later }
def FuzzyMergesUptoCardSaid : Prop := Claim7.holds Tryd.pinned (.plain (OpenSpec.upto fuzzyMergesSpec)) fuzzyMergesUptoCard

/-- THE SECOND FORM's CARD OF 'abecedarylaw12.FuzzyOver'. -/
def fuzzyOverUptoCard : Claim7 := { stood := { row := fuzzyOverUptoRow, standIns := [], harness := (true, "12e625506e2b0a16e12ffc0fea83cc0c3bdff88b99dd2213afe2131135e75976"), looks := false }, kinds := [], alts := [], laidByText := true, laidKinds := [.data], laidTests := true, laidLooks := .later }
def FuzzyOverUptoCardSaid : Prop := Claim7.holds Tryd.pinned (.plain (OpenSpec.upto fuzzyOverSpec)) fuzzyOverUptoCard

/-- THE SECOND FORM's CARD OF 'abecedarylaw12.FuzzyNothing'. -/
def fuzzyNothingUptoCard : Claim7 := { stood := { row := fuzzyNothingUptoRow, standIns := [], harness := (true, "12e625506e2b0a16e12ffc0fea83cc0c3bdff88b99dd2213afe2131135e75976"), looks := false }, kinds := [], alts := [], laidByText := true, laidKinds := [.data], laidTests := true, laidLooks := .later }
def FuzzyNothingUptoCardSaid : Prop := Claim7.holds Tryd.pinned (.plain (OpenSpec.upto fuzzyNothingSpec)) fuzzyNothingUptoCard
end Rows
end Go.Proofs.YtfaoifggkfmokaaDoor
