/-
  DERIVED. GIVEN WITH THE SEED: THE CARDS: each row of YtlnakepcgjfaaaaDoorRows.lean that lists a variable, with what it lists TIED to the program's text (the seventh form; the later family's looks); each row that meets fmt, with fmt's text TOLD by the authors' own Lean function (tested against real Go, not proved from fmt's source: count such statements apart). THE CARD IS WHAT COUNTS. Prove the row's statement (the work); the ties are given (YtlnakepcgjfaaaaDoorTie.lean); close each card by the builder's one call (the guide's Derived/Test/ToyasCard.lean, 'card_holds'). Laid BY PROGRAM, IN A SANDBOX (cutbox-door.mjs). By AI agents, Wed Nov 11 2026. No macro, syntax, notation, axiom, sorry.
-/
import Derived.Test.YtlnakepcgjfaaaaDoorRows
import GoSem.ClaimSeven
namespace Go.Proofs.YtlnakepcgjfaaaaDoor
namespace Rows

/-- THE TIED CARD OF 'abecedarytop.AbecedaryFinds'. -/
def abecedaryFindsCard : Claim7 := { stood := { row := abecedaryFindsRow, standIns := [], harness := (true, "cf356a08a4a65fbae759d532518eb5ffe6013079fe141efae348398226062118"), looks := false }, kinds := [], alts := [], laidByText := true, laidKinds := [.data], laidTests := true, laidLooks := .later }
def AbecedaryFindsCardSaid : Prop := Claim7.holds Tryd.pinned (.plain (OpenSpec.ofChange abecedaryFindsSpec)) abecedaryFindsCard

/-- THE SECOND FORM's CARD OF 'abecedarytop.AbecedaryFinds'. -/
def abecedaryFindsUptoCard : Claim7 := { stood := { row := abecedaryFindsUptoRow, standIns := [], harness := (true, "cf356a08a4a65fbae759d532518eb5ffe6013079fe141efae348398226062118"), looks := false }, kinds := [], alts := [], laidByText := true, laidKinds := [.data], laidTests := true, laidLooks := .later }
def AbecedaryFindsUptoCardSaid : Prop := Claim7.holds Tryd.pinned (.plain (OpenSpec.upto abecedaryFindsSpec)) abecedaryFindsUptoCard
end Rows
end Go.Proofs.YtlnakepcgjfaaaaDoor
