/-
  DERIVED. GIVEN WITH THE SEED: THE CARDS: each row of YthockgmbooefpaaDoorRows.lean that lists a variable, with what it lists TIED to the program's text (the seventh form; the later family's looks); each row that meets fmt, with fmt's text TOLD by the authors' own Lean function (tested against real Go, not proved from fmt's source: count such statements apart). THE CARD IS WHAT COUNTS. Prove the row's statement (the work); the ties are given (YthockgmbooefpaaDoorTie.lean); close each card by the builder's one call (the guide's Derived/Test/ToyasCard.lean, 'card_holds'). Laid BY PROGRAM, IN A SANDBOX (cutbox-door.mjs). By AI agents, Wed Nov 11 2026. No macro, syntax, notation, axiom, sorry.
-/
import Derived.Test.YthockgmbooefpaaDoorRows
import GoSem.ClaimSeven
namespace Go.Proofs.YthockgmbooefpaaDoor
namespace Rows

/-- THE TIED CARD OF 'abecedarylaw16.StateOnce'. -/
def stateOnceCard : Claim7 := { stood := { row := stateOnceRow, standIns := [], harness := (true, "780d2d1b2d8db8a634383ee6e09fbfc9a8d143447d1c0db1c56ed6bcce517e37"), looks := false }, kinds := [], alts := [], laidByText := true, laidKinds := [.data], laidTests := true, laidLooks := .later }
def StateOnceCardSaid : Prop := Claim7.holds Tryd.pinned (.plain (OpenSpec.ofChange stateOnceSpec)) stateOnceCard

/-- THE TIED CARD OF 'abecedarylaw16.StateAll'. -/
def stateAllCard : Claim7 := { stood := { row := stateAllRow, standIns := [], harness := (true, "780d2d1b2d8db8a634383ee6e09fbfc9a8d143447d1c0db1c56ed6bcce517e37"), looks := false }, kinds := [], alts := [], laidByText := true, laidKinds := [.data], laidTests := true, laidLooks := .later }
def StateAllCardSaid : Prop := Claim7.holds Tryd.pinned (.plain (OpenSpec.ofChange stateAllSpec)) stateAllCard

/-- THE TIED CARD OF 'abecedarylaw16.StateApart'. -/
def stateApartCard : Claim7 := { stood := { row := stateApartRow, standIns := [], harness := (true, "780d2d1b2d8db8a634383ee6e09fbfc9a8d143447d1c0db1c56ed6bcce517e37"), looks := false }, kinds := [], alts := [], laidByText := true, laidKinds := [.data], laidTests := true, laidLooks := .later }
def StateApartCardSaid : Prop := Claim7.holds Tryd.pinned (.plain (OpenSpec.ofChange stateApartSpec)) stateApartCard

/-- THE TIED CARD OF 'abecedarylaw16.StateTwice'. -/
def stateTwiceCard : Claim7 := { stood := { row := stateTwiceRow, standIns := [], harness := (true, "780d2d1b2d8db8a634383ee6e09fbfc9a8d143447d1c0db1c56ed6bcce517e37"), looks := false }, kinds := [], alts := [], laidByText := true, laidKinds := [.data], laidTests := true, laidLooks := .later }
def StateTwiceCardSaid : Prop := Claim7.holds Tryd.pinned (.plain (OpenSpec.ofChange stateTwiceSpec)) stateTwiceCard

/-- THE SECOND FORM's CARD OF 'abecedarylaw16.StateOnce'. -/
def stateOnceUptoCard : Claim7 := { stood := { row := stateOnceUptoRow, standIns := [], harness := (true, "780d2d1b2d8db8a634383ee6e09fbfc9a8d143447d1c0db1c56ed6bcce517e37"), looks := false }, kinds := [], alts := [], laidByText := true, laidKinds := [.data], laidTests := true, laidLooks := .later }
def StateOnceUptoCardSaid : Prop := Claim7.holds Tryd.pinned (.plain (OpenSpec.upto stateOnceSpec)) stateOnceUptoCard

/-- THE SECOND FORM's CARD OF 'abecedarylaw16.StateAll'. -/
def stateAllUptoCard : Claim7 := { stood := { row := stateAllUptoRow, standIns := [], harness := (true, "780d2d1b2d8db8a634383ee6e09fbfc9a8d143447d1c0db1c56ed6bcce517e37"), looks := false }, kinds := [], alts := [], laidByText := true, laidKinds := [.data], laidTests := true, laidLooks := .later }
def StateAllUptoCardSaid : Prop := Claim7.holds Tryd.pinned (.plain (OpenSpec.upto stateAllSpec)) stateAllUptoCard

/-- THE SECOND FORM's CARD OF 'abecedarylaw16.StateApart'. -/
def stateApartUptoCard : Claim7 := { stood := { row := stateApartUptoRow, standIns := [], harness := (true, "780d2d1b2d8db8a634383ee6e09fbfc9a8d143447d1c0db1c56ed6bcce517e37"), looks := false }, kinds := [], alts := [], laidByText := true, laidKinds := [.data], laidTests := true, laidLooks := .later }
def StateApartUptoCardSaid : Prop := Claim7.holds Tryd.pinned (.plain (OpenSpec.upto stateApartSpec)) stateApartUptoCard

/-- THE SECOND FORM's CARD OF 'abecedarylaw16.StateTwice'. -/
def stateTwiceUptoCard : Claim7 := { stood := { row := stateTwiceUptoRow, standIns := [], harness := (true, "780d2d1b2d8db8a634383ee6e09fbfc9a8d143447d1c0db1c56ed6bcce517e37"), looks := false }, kinds := [], alts := [], laidByText := true, laidKinds := [.data], laidTests := true, laidLooks := .later }
def StateTwiceUptoCardSaid : Prop := Claim7.holds Tryd.pinned (.plain (OpenSpec.upto stateTwiceSpec)) stateTwiceUptoCard
end Rows
end Go.Proofs.YthockgmbooefpaaDoor
