/-
  DERIVED. GIVEN WITH THE SEED: THE CARDS: each row of YtdjlcgldplndiaaDoorRows.lean that lists a variable, with what it lists TIED to the program's text (the seventh form; the later family's looks); each row that meets fmt, with fmt's text TOLD by the authors' own Lean function (tested against real Go, not proved from fmt's source: count such statements apart). THE CARD IS WHAT COUNTS. Prove the row's statement (the work); the ties are given (YtdjlcgldplndiaaDoorTie.lean); close each card by the builder's one call (the guide's Derived/Test/ToyasCard.lean, 'card_holds'). Laid BY PROGRAM, IN A SANDBOX (cutbox-door.mjs). By AI agents, Wed Nov 11 2026. No macro, syntax, notation, axiom, sorry.
-/
import Derived.Test.YtdjlcgldplndiaaDoorRows
import GoSem.ClaimSeven
namespace Go.Proofs.YtdjlcgldplndiaaDoor
namespace Rows

/-- THE TIED CARD OF 'abecedarylaw06.PairsRight'. -/
def pairsRightCard : Claim7 := { stood := { row := pairsRightRow, standIns := [], harness := (true, "402bbf677fd51cae568a9be0b144746cf18ca03efede43f8650686a06eefe62c"), looks := false }, kinds := [], alts := [], laidByText := true, laidKinds := [.data], laidTests := true, laidLooks := .later }
def PairsRightCardSaid : Prop := Claim7.holds Tryd.pinned (.plain (OpenSpec.ofChange pairsRightSpec)) pairsRightCard

/-- THE TIED CARD OF 'abecedarylaw06.PairsMerges'. -/
def pairsMergesCard : Claim7 := { stood := { row := pairsMergesRow, standIns := [], harness := (true, "402bbf677fd51cae568a9be0b144746cf18ca03efede43f8650686a06eefe62c"), looks := false }, kinds := [], alts := [], laidByText := true, laidKinds := [.data], laidTests := true, laidLooks := .later }
def PairsMergesCardSaid : Prop := Claim7.holds Tryd.pinned (.plain (OpenSpec.ofChange pairsMergesSpec)) pairsMergesCard

/-- THE TIED CARD OF 'abecedarylaw06.PairsTwice'. -/
def pairsTwiceCard : Claim7 := { stood := { row := pairsTwiceRow, standIns := [], harness := (true, "402bbf677fd51cae568a9be0b144746cf18ca03efede43f8650686a06eefe62c"), looks := false }, kinds := [], alts := [], laidByText := true, laidKinds := [.data], laidTests := true, laidLooks := .later }
def PairsTwiceCardSaid : Prop := Claim7.holds Tryd.pinned (.plain (OpenSpec.ofChange pairsTwiceSpec)) pairsTwiceCard

/-- THE TIED CARD OF 'abecedarylaw06.PairsApart'. -/
def pairsApartCard : Claim7 := { stood := { row := pairsApartRow, standIns := [], harness := (true, "402bbf677fd51cae568a9be0b144746cf18ca03efede43f8650686a06eefe62c"), looks := false }, kinds := [], alts := [], laidByText := true, laidKinds := [.data], laidTests := true, laidLooks := .later }
def PairsApartCardSaid : Prop := Claim7.holds Tryd.pinned (.plain (OpenSpec.ofChange pairsApartSpec)) pairsApartCard

/-- THE TIED CARD OF 'abecedarylaw06.PairsNorm'. -/
def pairsNormCard : Claim7 := { stood := { row := pairsNormRow, standIns := [], harness := (true, "402bbf677fd51cae568a9be0b144746cf18ca03efede43f8650686a06eefe62c"), looks := false }, kinds := [], alts := [], laidByText := true, laidKinds := [.data], laidTests := true, laidLooks := .later }
def PairsNormCardSaid : Prop := Claim7.holds Tryd.pinned (.plain (OpenSpec.ofChange pairsNormSpec)) pairsNormCard

/-- THE TIED CARD OF 'abecedarylaw06.PairsFinds'. -/
def pairsFindsCard : Claim7 := { stood := { row := pairsFindsRow, standIns := [], harness := (true, "402bbf677fd51cae568a9be0b144746cf18ca03efede43f8650686a06eefe62c"), looks := false }, kinds := [], alts := [], laidByText := true, laidKinds := [.data], laidTests := true, laidLooks := .later }
def PairsFindsCardSaid : Prop := Claim7.holds Tryd.pinned (.plain (OpenSpec.ofChange pairsFindsSpec)) pairsFindsCard

/-- THE TIED CARD OF 'abecedarylaw06.PairsDiffers'. -/
def pairsDiffersCard : Claim7 := { stood := { row := pairsDiffersRow, standIns := [], harness := (true, "402bbf677fd51cae568a9be0b144746cf18ca03efede43f8650686a06eefe62c"), looks := false }, kinds := [], alts := [], laidByText := true, laidKinds := [.data], laidTests := true, laidLooks := .later }
def PairsDiffersCardSaid : Prop := Claim7.holds Tryd.pinned (.plain (OpenSpec.ofChange pairsDiffersSpec)) pairsDiffersCard

/-- THE TIED CARD OF 'abecedarylaw06.PairsLeads'. -/
def pairsLeadsCard : Claim7 := { stood := { row := pairsLeadsRow, standIns := [], harness := (true, "402bbf677fd51cae568a9be0b144746cf18ca03efede43f8650686a06eefe62c"), looks := false }, kinds := [], alts := [], laidByText := true, laidKinds := [.data], laidTests := true, laidLooks := .later }
def PairsLeadsCardSaid : Prop := Claim7.holds Tryd.pinned (.plain (OpenSpec.ofChange pairsLeadsSpec)) pairsLeadsCard

/-- THE SECOND FORM's CARD OF 'abecedarylaw06.PairsRight'. -/
def pairsRightUptoCard : Claim7 := { stood := { row := pairsRightUptoRow, standIns := [], harness := (true, "402bbf677fd51cae568a9be0b144746cf18ca03efede43f8650686a06eefe62c"), looks := false }, kinds := [], alts := [], laidByText := true, laidKinds := [.data], laidTests := true, laidLooks := .later }
def PairsRightUptoCardSaid : Prop := Claim7.holds Tryd.pinned (.plain (OpenSpec.upto pairsRightSpec)) pairsRightUptoCard

/-- THE SECOND FORM's CARD OF 'abecedarylaw06.PairsMerges'. -/
def pairsMergesUptoCard : Claim7 := { stood := { row := pairsMergesUptoRow, standIns := [], harness := (true, "402bbf677fd51cae568a9be0b144746cf18ca03efede43f8650686a06eefe62c"), looks := false }, kinds := [], alts := [], laidByText := true, laidKinds := [.data], laidTests := true, laidLooks := .later }
def PairsMergesUptoCardSaid : Prop := Claim7.holds Tryd.pinned (.plain (OpenSpec.upto pairsMergesSpec)) pairsMergesUptoCard

/-- THE SECOND FORM's CARD OF 'abecedarylaw06.PairsTwice'. -/
def pairsTwiceUptoCard : Claim7 := { stood := { row := pairsTwiceUptoRow, standIns := [], harness := (true, "402bbf677fd51cae568a9be0b144746cf18ca03efede43f8650686a06eefe62c"), looks := false }, kinds := [], alts := [], laidByText := true, laidKinds := [.data], laidTests := true, laidLooks := .later }
def PairsTwiceUptoCardSaid : Prop := Claim7.holds Tryd.pinned (.plain (OpenSpec.upto pairsTwiceSpec)) pairsTwiceUptoCard

/-- THE SECOND FORM's CARD OF 'abecedarylaw06.PairsApart'. -/
def pairsApartUptoCard : Claim7 := { stood := { row := pairsApartUptoRow, standIns := [], harness := (true, "402bbf677fd51cae568a9be0b144746cf18ca03efede43f8650686a06eefe62c"), looks := false }, kinds := [], alts := [], laidByText := true, laidKinds := [.data], laidTests := true, laidLooks := .later }
def PairsApartUptoCardSaid : Prop := Claim7.holds Tryd.pinned (.plain (OpenSpec.upto pairsApartSpec)) pairsApartUptoCard

/-- THE SECOND FORM's CARD OF 'abecedarylaw06.PairsNorm'. -/
def pairsNormUptoCard : Claim7 := { stood := { row := pairsNormUptoRow, standIns := [], harness := (true, "402bbf677fd51cae568a9be0b144746cf18ca03efede43f8650686a06eefe62c"), looks := false }, kinds := [], alts := [], laidByText := true, laidKinds := [.data], laidTests := true, laidLooks := .later }
def PairsNormUptoCardSaid : Prop := Claim7.holds Tryd.pinned (.plain (OpenSpec.upto pairsNormSpec)) pairsNormUptoCard

/-- THE SECOND FORM's CARD OF 'abecedarylaw06.PairsFinds'. -/
def pairsFindsUptoCard : Claim7 := { stood := { row := pairsFindsUptoRow, standIns := [], harness := (true, "402bbf677fd51cae568a9be0b144746cf18ca03efede43f8650686a06eefe62c"), looks := false }, kinds := [], alts := [], laidByText := true, laidKinds := [.data], laidTests := true, laidLooks := .later }
def PairsFindsUptoCardSaid : Prop := Claim7.holds Tryd.pinned (.plain (OpenSpec.upto pairsFindsSpec)) pairsFindsUptoCard

/-- THE SECOND FORM's CARD OF 'abecedarylaw06.PairsDiffers'. -/
def pairsDiffersUptoCard : Claim7 := { stood := { row := pairsDiffersUptoRow, standIns := [], harness := (true, "402bbf677fd51cae568a9be0b144746cf18ca03efede43f8650686a06eefe62c"), looks := false }, kinds := [], alts := [], laidByText := true, laidKinds := [.data], laidTests := true, laidLooks := .later }
def PairsDiffersUptoCardSaid : Prop := Claim7.holds Tryd.pinned (.plain (OpenSpec.upto pairsDiffersSpec)) pairsDiffersUptoCard

/-- THE SECOND FORM's CARD OF 'abecedarylaw06.PairsLeads'. -/
def pairsLeadsUptoCard : Claim7 := { stood := { row := pairsLeadsUptoRow, standIns := [], harness := (true, "402bbf677fd51cae568a9be0b144746cf18ca03efede43f8650686a06eefe62c"), looks := false }, kinds := [], alts := [], laidByText := true, laidKinds := [.data], laidTests := true, laidLooks := .later }
def PairsLeadsUptoCardSaid : Prop := Claim7.holds Tryd.pinned (.plain (OpenSpec.upto pairsLeadsSpec)) pairsLeadsUptoCard
end Rows
end Go.Proofs.YtdjlcgldplndiaaDoor
