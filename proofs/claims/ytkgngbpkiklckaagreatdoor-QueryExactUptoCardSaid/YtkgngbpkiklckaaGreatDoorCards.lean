/-
  DERIVED. GIVEN WITH THE SEED: THE CARDS: each row of YtkgngbpkiklckaaGreatDoorRows.lean that lists a variable, with what it lists TIED to the program's text (the seventh form; the later family's looks); each row that meets fmt, with fmt's text TOLD by the authors' own Lean function (tested against real Go, not proved from fmt's source: count such statements apart). THE CARD IS WHAT COUNTS. Prove the row's statement (the work); the ties are given (YtkgngbpkiklckaaGreatDoorTie.lean); close each card by the builder's one call (the guide's Derived/Test/ToyasCard.lean, 'card_holds'). Laid BY PROGRAM, IN A SANDBOX (cutbox-door.mjs). By AI agents, Wed Nov 11 2026. No macro, syntax, notation, axiom, sorry.
-/
import Derived.Test.YtkgngbpkiklckaaGreatDoorRows
import GoSem.ClaimSeven
namespace Go.Proofs.YtkgngbpkiklckaaGreatDoor
namespace Rows

/-- THE TIED CARD OF 'abreastlaw30.QueryBack'. -/
def queryBackCard : Claim7 := { stood := { row := queryBackRow, standIns := [], harness := (true, "24ab5d938f50b49b83a60c450d78069eec3777e1f2097086be6cf805d8e83c86"), looks := true }, kinds := [], alts := [], laidByText := true, laidKinds := [.data, .data, .data, .listed, .data], laidTests := true, laidLooks := .later }
def QueryBackCardSaid : Prop := Claim7.holds Tryz.pinned (.plain (OpenSpec.ofChange queryBackSpec)) queryBackCard

/-- THE TIED CARD OF 'abreastlaw30.QueryFuel'. -/
def queryFuelCard : Claim7 := { stood := { row := queryFuelRow, standIns := [], harness := (true, "24ab5d938f50b49b83a60c450d78069eec3777e1f2097086be6cf805d8e83c86"), looks := true }, kinds := [], alts := [], laidByText := true, laidKinds := [.data, .data, .data, .listed, .data], laidTests := true, laidLooks := .later }
def QueryFuelCardSaid : Prop := Claim7.holds Tryz.pinned (.plain (OpenSpec.ofChange queryFuelSpec)) queryFuelCard

/-- THE TIED CARD OF 'abreastlaw30.QueryAlike'. -/
def queryAlikeCard : Claim7 := { stood := { row := queryAlikeRow, standIns := [], harness := (true, "24ab5d938f50b49b83a60c450d78069eec3777e1f2097086be6cf805d8e83c86"), looks := true }, kinds := [], alts := [], laidByText := true, laidKinds := [.data, .data, .data, .listed, .data], laidTests := true, laidLooks := .later }
def QueryAlikeCardSaid : Prop := Claim7.holds Tryz.pinned (.plain (OpenSpec.ofChange queryAlikeSpec)) queryAlikeCard

/-- THE TIED CARD OF 'abreastlaw30.QueryRaces'. -/
def queryRacesCard : Claim7 := { stood := { row := queryRacesRow, standIns := [], harness := (true, "24ab5d938f50b49b83a60c450d78069eec3777e1f2097086be6cf805d8e83c86"), looks := true }, kinds := [], alts := [], laidByText := true, laidKinds := [.data, .data, .data, .listed, .data], laidTests := true, laidLooks := .later }
def QueryRacesCardSaid : Prop := Claim7.holds Tryz.pinned (.plain (OpenSpec.ofChange queryRacesSpec)) queryRacesCard

/-- THE TIED CARD OF 'abreastlaw30.QueryNames'. -/
def queryNamesCard : Claim7 := { stood := { row := queryNamesRow, standIns := [], harness := (true, "24ab5d938f50b49b83a60c450d78069eec3777e1f2097086be6cf805d8e83c86"), looks := true }, kinds := [], alts := [], laidByText := true, laidKinds := [.data, .data, .data, .listed, .data], laidTests := true, laidLooks := .later }
def QueryNamesCardSaid : Prop := Claim7.holds Tryz.pinned (.plain (OpenSpec.ofChange queryNamesSpec)) queryNamesCard

/-- THE TIED CARD OF 'abreastlaw30.QueryRenames'. -/
def queryRenamesCard : Claim7 := { stood := { row := queryRenamesRow, standIns := [], harness := (true, "24ab5d938f50b49b83a60c450d78069eec3777e1f2097086be6cf805d8e83c86"), looks := true }, kinds := [], alts := [], laidByText := true, laidKinds := [.data, .data, .data, .listed, .data], laidTests := true, laidLooks := .later }
def QueryRenamesCardSaid : Prop := Claim7.holds Tryz.pinned (.plain (OpenSpec.ofChange queryRenamesSpec)) queryRenamesCard

/-- THE TIED CARD OF 'abreastlaw30.QueryExact'. -/
def queryExactCard : Claim7 := { stood := { row := queryExactRow, standIns := [], harness := (true, "24ab5d938f50b49b83a60c450d78069eec3777e1f2097086be6cf805d8e83c86"), looks := true }, kinds := [], alts := [], laidByText := true, laidKinds := [.data, .data, .data, .listed, .data], laidTests := true, laidLooks := .later }
def QueryExactCardSaid : Prop := Claim7.holds Tryz.pinned (.plain (OpenSpec.ofChange queryExactSpec)) queryExactCard

/-- THE SECOND FORM's CARD OF 'abreastlaw30.QueryBack'. -/
def queryBackUptoCard : Claim7 := { stood := { row := queryBackUptoRow, standIns := [], harness := (true, "24ab5d938f50b49b83a60c450d78069eec3777e1f2097086be6cf805d8e83c86"), looks := true }, kinds := [], alts := [], laidByText := true, laidKinds := [.data, .data, .data, .listed, .data], laidTests := true, laidLooks := .later }
def QueryBackUptoCardSaid : Prop := Claim7.holds Tryz.pinned (.plain (OpenSpec.upto queryBackSpec)) queryBackUptoCard

/-- THE SECOND FORM's CARD OF 'abreastlaw30.QueryFuel'. -/
def queryFuelUptoCard : Claim7 := { stood := { row := queryFuelUptoRow, standIns := [], harness := (true, "24ab5d938f50b49b83a60c450d78069eec3777e1f2097086be6cf805d8e83c86"), looks := true }, kinds := [], alts := [], laidByText := true, laidKinds := [.data, .data, .data, .listed, .data], laidTests := true, laidLooks := .later }
def QueryFuelUptoCardSaid : Prop := Claim7.holds Tryz.pinned (.plain (OpenSpec.upto queryFuelSpec)) queryFuelUptoCard

/-- THE SECOND FORM's CARD OF 'abreastlaw30.QueryAlike'. -/
def queryAlikeUptoCard : Claim7 := { stood := { row := queryAlikeUptoRow, standIns := [], harness := (true, "24ab5d938f50b49b83a60c450d78069eec3777e1f2097086be6cf805d8e83c86"), looks := true }, kinds := [], alts := [], laidByText := true, laidKinds := [.data, .data, .data, .listed, .data], laidTests := true, laidLooks := .later }
def QueryAlikeUptoCardSaid : Prop := Claim7.holds Tryz.pinned (.plain (OpenSpec.upto queryAlikeSpec)) queryAlikeUptoCard

/-- THE SECOND FORM's CARD OF 'abreastlaw30.QueryRaces'. -/
def queryRacesUptoCard : Claim7 := { stood := { row := queryRacesUptoRow, standIns := [], harness := (true, "24ab5d938f50b49b83a60c450d78069eec3777e1f2097086be6cf805d8e83c86"), looks := true }, kinds := [], alts := [], laidByText := true, laidKinds := [.data, .data, .data, .listed, .data], laidTests := true, laidLooks := .later }
def QueryRacesUptoCardSaid : Prop := Claim7.holds Tryz.pinned (.plain (OpenSpec.upto queryRacesSpec)) queryRacesUptoCard

/-- THE SECOND FORM's CARD OF 'abreastlaw30.QueryNames'. -/
def queryNamesUptoCard : Claim7 := { stood := { row := queryNamesUptoRow, standIns := [], harness := (true, "24ab5d938f50b49b83a60c450d78069eec3777e1f2097086be6cf805d8e83c86"), looks := true }, kinds := [], alts := [], laidByText := true, laidKinds := [.data, .data, .data, .listed, .data], laidTests := true, laidLooks := .later }
def QueryNamesUptoCardSaid : Prop := Claim7.holds Tryz.pinned (.plain (OpenSpec.upto queryNamesSpec)) queryNamesUptoCard

/-- THE SECOND FORM's CARD OF 'abreastlaw30.QueryRenames'. -/
def queryRenamesUptoCard : Claim7 := { stood := { row := queryRenamesUptoRow, standIns := [], harness := (true, "24ab5d938f50b49b83a60c450d78069eec3777e1f2097086be6cf805d8e83c86"), looks := true }, kinds := [], alts := [], laidByText := true, laidKinds := [.data, .data, .data, .listed, .data], laidTests := true, laidLooks := .later }
def QueryRenamesUptoCardSaid : Prop := Claim7.holds Tryz.pinned (.plain (OpenSpec.upto queryRenamesSpec)) queryRenamesUptoCard

/-- THE SECOND FORM's CARD OF 'abreastlaw30.QueryExact'. -/
def queryExactUptoCard : Claim7 := { stood := { row := queryExactUptoRow, standIns := [], harness := (true, "24ab5d938f50b49b83a60c450d78069eec3777e1f2097086be6cf805d8e83c86"), looks := true }, kinds := [], alts := [], laidByText := true, laidKinds := [.data, .data, .data, .listed, .data], laidTests := true, laidLooks := .later }
def QueryExactUptoCardSaid : Prop := Claim7.holds Tryz.pinned (.plain (OpenSpec.upto queryExactSpec)) queryExactUptoCard
end Rows
end Go.Proofs.YtkgngbpkiklckaaGreatDoor
