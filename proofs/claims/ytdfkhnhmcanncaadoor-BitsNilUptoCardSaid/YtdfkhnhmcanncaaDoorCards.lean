/-
  DERIVED. GIVEN WITH THE SEED: THE CARDS: each row of YtdfkhnhmcanncaaDoorRows.lean that lists a variable, with what it lists TIED to the program's text (the seventh form; the later family's looks); each row that meets fmt, with fmt's text TOLD by the authors' own Lean function (tested against real Go, not proved from fmt's source: count such statements apart). THE CARD IS WHAT COUNTS. Prove the row's statement (the work); the ties are given (YtdfkhnhmcanncaaDoorTie.lean); close each card by the builder's one call (the guide's Derived/Test/ToyasCard.lean, 'card_holds'). Laid BY PROGRAM, IN A SANDBOX (cutbox-door.mjs). By AI agents, Wed Nov 11 2026. No macro, syntax, notation, axiom, sorry.
-/
import Derived.Test.YtdfkhnhmcanncaaDoorRows
import GoSem.ClaimSeven
namespace Go.Proofs.YtdfkhnhmcanncaaDoor
namespace Rows

/-- THE TIED CARD OF 'abreastlaw05.BitsOrder'. -/
def bitsOrderCard : Claim7 := { stood := { row := bitsOrderRow, standIns := [], harness := (true, "693de0d9d513f88b1d57570382f2685741665525d0adf0516324ee7849c93d97"), looks := false }, kinds := [], alts := [], laidByText := true, laidKinds := [.data], laidTests := true, laidLooks := .later }
def BitsOrderCardSaid : Prop := Claim7.holds Tryd.pinned (.plain (OpenSpec.ofChange bitsOrderSpec)) bitsOrderCard

/-- THE TIED CARD OF 'abreastlaw05.BitsWords'. -/
def bitsWordsCard : Claim7 := { stood := { row := bitsWordsRow, standIns := [], harness := (true, "693de0d9d513f88b1d57570382f2685741665525d0adf0516324ee7849c93d97"), looks := false }, kinds := [], alts := [], laidByText := true, laidKinds := [.data], laidTests := true, laidLooks := .later }
def BitsWordsCardSaid : Prop := Claim7.holds Tryd.pinned (.plain (OpenSpec.ofChange bitsWordsSpec)) bitsWordsCard

/-- THE TIED CARD OF 'abreastlaw05.BitsCloses'. -/
def bitsClosesCard : Claim7 := { stood := { row := bitsClosesRow, standIns := [], harness := (true, "693de0d9d513f88b1d57570382f2685741665525d0adf0516324ee7849c93d97"), looks := false }, kinds := [], alts := [], laidByText := true, laidKinds := [.data], laidTests := true, laidLooks := .later }
def BitsClosesCardSaid : Prop := Claim7.holds Tryd.pinned (.plain (OpenSpec.ofChange bitsClosesSpec)) bitsClosesCard

/-- THE TIED CARD OF 'abreastlaw05.BitsRelations'. -/
def bitsRelationsCard : Claim7 := { stood := { row := bitsRelationsRow, standIns := [], harness := (true, "693de0d9d513f88b1d57570382f2685741665525d0adf0516324ee7849c93d97"), looks := false }, kinds := [], alts := [], laidByText := true, laidKinds := [.data], laidTests := true, laidLooks := .later }
def BitsRelationsCardSaid : Prop := Claim7.holds Tryd.pinned (.plain (OpenSpec.ofChange bitsRelationsSpec)) bitsRelationsCard

/-- THE TIED CARD OF 'abreastlaw05.BitsAlgebra'. -/
def bitsAlgebraCard : Claim7 := { stood := { row := bitsAlgebraRow, standIns := [], harness := (true, "693de0d9d513f88b1d57570382f2685741665525d0adf0516324ee7849c93d97"), looks := false }, kinds := [], alts := [], laidByText := true, laidKinds := [.data], laidTests := true, laidLooks := .later }
def BitsAlgebraCardSaid : Prop := Claim7.holds Tryd.pinned (.plain (OpenSpec.ofChange bitsAlgebraSpec)) bitsAlgebraCard

/-- THE TIED CARD OF 'abreastlaw05.BitsPlays'. -/
def bitsPlaysCard : Claim7 := { stood := { row := bitsPlaysRow, standIns := [], harness := (true, "693de0d9d513f88b1d57570382f2685741665525d0adf0516324ee7849c93d97"), looks := false }, kinds := [], alts := [], laidByText := true, laidKinds := [.data], laidTests := true, laidLooks := .later }
def BitsPlaysCardSaid : Prop := Claim7.holds Tryd.pinned (.plain (OpenSpec.ofChange bitsPlaysSpec)) bitsPlaysCard

/-- THE TIED CARD OF 'abreastlaw05.BitsNil'. -/
def bitsNilCard : Claim7 := { stood := { row := bitsNilRow, standIns := [], harness := (true, "693de0d9d513f88b1d57570382f2685741665525d0adf0516324ee7849c93d97"), looks := false }, kinds := [], alts := [], laidByText := true, laidKinds := [.data], laidTests := true, laidLooks := .later }
def BitsNilCardSaid : Prop := Claim7.holds Tryd.pinned (.plain (OpenSpec.ofChange bitsNilSpec)) bitsNilCard

/-- THE SECOND FORM's CARD OF 'abreastlaw05.BitsOrder'. -/
def bitsOrderUptoCard : Claim7 := { stood := { row := bitsOrderUptoRow, standIns := [], harness := (true, "693de0d9d513f88b1d57570382f2685741665525d0adf0516324ee7849c93d97"), looks := false }, kinds := [], alts := [], laidByText := true, laidKinds := [.data], laidTests := true, laidLooks := .later }
def BitsOrderUptoCardSaid : Prop := Claim7.holds Tryd.pinned (.plain (OpenSpec.upto bitsOrderSpec)) bitsOrderUptoCard

/-- THE SECOND FORM's CARD OF 'abreastlaw05.BitsWords'. -/
def bitsWordsUptoCard : Claim7 := { stood := { row := bitsWordsUptoRow, standIns := [], harness := (true, "693de0d9d513f88b1d57570382f2685741665525d0adf0516324ee7849c93d97"), looks := false }, kinds := [], alts := [], laidByText := true, laidKinds := [.data], laidTests := true, laidLooks := .later }
def BitsWordsUptoCardSaid : Prop := Claim7.holds Tryd.pinned (.plain (OpenSpec.upto bitsWordsSpec)) bitsWordsUptoCard

/-- THE SECOND FORM's CARD OF 'abreastlaw05.BitsCloses'. -/
def bitsClosesUptoCard : Claim7 := { stood := { row := bitsClosesUptoRow, standIns := [], harness := (true, "693de0d9d513f88b1d57570382f2685741665525d0adf0516324ee7849c93d97"), looks := false }, kinds := [], alts := [], laidByText := true, laidKinds := [.data], laidTests := true, laidLooks := .later }
def BitsClosesUptoCardSaid : Prop := Claim7.holds Tryd.pinned (.plain (OpenSpec.upto bitsClosesSpec)) bitsClosesUptoCard

/-- THE SECOND FORM's CARD OF 'abreastlaw05.BitsRelations'. -/
def bitsRelationsUptoCard : Claim7 := { stood := { row := bitsRelationsUptoRow, standIns := [], harness := (true, "693de0d9d513f88b1d57570382f2685741665525d0adf0516324ee7849c93d97"), looks := false }, kinds := [], alts := [], laidByText := true, laidKinds := [.data], laidTests := true, laidLooks := .later }
def BitsRelationsUptoCardSaid : Prop := Claim7.holds Tryd.pinned (.plain (OpenSpec.upto bitsRelationsSpec)) bitsRelationsUptoCard

/-- THE SECOND FORM's CARD OF 'abreastlaw05.BitsAlgebra'. -/
def bitsAlgebraUptoCard : Claim7 := { stood := { row := bitsAlgebraUptoRow, standIns := [], harness := (true, "693de0d9d513f88b1d57570382f2685741665525d0adf0516324ee7849c93d97"), looks := false }, kinds := [], alts := [], laidByText := true, laidKinds := [.data], laidTests := true, laidLooks := .later }
def BitsAlgebraUptoCardSaid : Prop := Claim7.holds Tryd.pinned (.plain (OpenSpec.upto bitsAlgebraSpec)) bitsAlgebraUptoCard

/-- THE SECOND FORM's CARD OF 'abreastlaw05.BitsPlays'. -/
def bitsPlaysUptoCard : Claim7 := { stood := { row := bitsPlaysUptoRow, standIns := [], harness := (true, "693de0d9d513f88b1d57570382f2685741665525d0adf0516324ee7849c93d97"), looks := false }, kinds := [], alts := [], laidByText := true, laidKinds := [.data], laidTests := true, laidLooks := .later }
def BitsPlaysUptoCardSaid : Prop := Claim7.holds Tryd.pinned (.plain (OpenSpec.upto bitsPlaysSpec)) bitsPlaysUptoCard

/-- THE SECOND FORM's CARD OF 'abreastlaw05.BitsNil'. -/
def bitsNilUptoCard : Claim7 := { stood := { row := bitsNilUptoRow, standIns := [], harness := (true, "693de0d9d513f88b1d57570382f2685741665525d0adf0516324ee7849c93d97"), looks := false }, kinds := [], alts := [], laidByText := true, laidKinds := [.data], laidTests := true, laidLooks := .later }
def BitsNilUptoCardSaid : Prop := Claim7.holds Tryd.pinned (.plain (OpenSpec.upto bitsNilSpec)) bitsNilUptoCard
end Rows
end Go.Proofs.YtdfkhnhmcanncaaDoor
