/-
  DERIVED. GIVEN WITH THE SEED: THE CARDS: each row of YtmiifbamflkiaaaDoorRows.lean that lists a variable, with what it lists TIED to the program's text (the seventh form; the later family's looks); each row that meets fmt, with fmt's text TOLD by the authors' own Lean function (tested against real Go, not proved from fmt's source: count such statements apart). THE CARD IS WHAT COUNTS. Prove the row's statement (the work); the ties are given (YtmiifbamflkiaaaDoorTie.lean); close each card by the builder's one call (the guide's Derived/Test/ToyasCard.lean, 'card_holds'). Laid BY PROGRAM, IN A SANDBOX (cutbox-door.mjs). By AI agents, Wed Nov 11 2026. No macro, syntax, notation, axiom, sorry.
-/
import Derived.Test.YtmiifbamflkiaaaDoorRows
import GoSem.ClaimSeven
namespace Go.Proofs.YtmiifbamflkiaaaDoor
namespace Rows

/-- THE TIED CARD OF 'nunciolaw03.BlakeSums'. -/
def blakeSumsCard : Claim7 := { stood := { row := blakeSumsRow, standIns := [], harness := (true, "8678e90eacb5c6dbde01174dc4ce6ac8d7b1db47a5ade3639081fea64be77602"), looks := false }, kinds := [], alts := [], laidByText := true, laidKinds := [.data], laidTests := true, laidLooks := .later }
def BlakeSumsCardSaid : Prop := Claim7.holds Tryd.pinned (.plain (OpenSpec.ofChange blakeSumsSpec)) blakeSumsCard

/-- THE TIED CARD OF 'nunciolaw03.BlakePieces'. -/
def blakePiecesCard : Claim7 := { stood := { row := blakePiecesRow, standIns := [], harness := (true, "8678e90eacb5c6dbde01174dc4ce6ac8d7b1db47a5ade3639081fea64be77602"), looks := false }, kinds := [], alts := [], laidByText := true, laidKinds := [.data], laidTests := true, laidLooks := .later }
def BlakePiecesCardSaid : Prop := Claim7.holds Tryd.pinned (.plain (OpenSpec.ofChange blakePiecesSpec)) blakePiecesCard

/-- THE TIED CARD OF 'nunciolaw03.BlakeApart'. -/
def blakeApartCard : Claim7 := { stood := { row := blakeApartRow, standIns := [], harness := (true, "8678e90eacb5c6dbde01174dc4ce6ac8d7b1db47a5ade3639081fea64be77602"), looks := false }, kinds := [], alts := [], laidByText := true, laidKinds := [.data], laidTests := true, laidLooks := .later }
def BlakeApartCardSaid : Prop := Claim7.holds Tryd.pinned (.plain (OpenSpec.ofChange blakeApartSpec)) blakeApartCard

/-- THE TIED CARD OF 'nunciolaw03.BlakeTells'. -/
def blakeTellsCard : Claim7 := { stood := { row := blakeTellsRow, standIns := [], harness := (true, "8678e90eacb5c6dbde01174dc4ce6ac8d7b1db47a5ade3639081fea64be77602"), looks := false }, kinds := [], alts := [], laidByText := true, laidKinds := [.data], laidTests := true, laidLooks := .later }
def BlakeTellsCardSaid : Prop := Claim7.holds Tryd.pinned (.plain (OpenSpec.ofChange blakeTellsSpec)) blakeTellsCard

/-- THE TIED CARD OF 'nunciolaw03.BlakeTags'. -/
def blakeTagsCard : Claim7 := { stood := { row := blakeTagsRow, standIns := [], harness := (true, "8678e90eacb5c6dbde01174dc4ce6ac8d7b1db47a5ade3639081fea64be77602"), looks := false }, kinds := [], alts := [], laidByText := true, laidKinds := [.data], laidTests := true, laidLooks := .later }
def BlakeTagsCardSaid : Prop := Claim7.holds Tryd.pinned (.plain (OpenSpec.ofChange blakeTagsSpec)) blakeTagsCard

/-- THE SECOND FORM's CARD OF 'nunciolaw03.BlakeSums'. -/
def blakeSumsUptoCard : Claim7 := { stood := { row := blakeSumsUptoRow, standIns := [], harness := (true, "8678e90eacb5c6dbde01174dc4ce6ac8d7b1db47a5ade3639081fea64be77602"), looks := false }, kinds := [], alts := [], laidByText := true, laidKinds := [.data], laidTests := true, laidLooks := .later }
def BlakeSumsUptoCardSaid : Prop := Claim7.holds Tryd.pinned (.plain (OpenSpec.upto blakeSumsSpec)) blakeSumsUptoCard

/-- THE SECOND FORM's CARD OF 'nunciolaw03.BlakePieces'. -/
def blakePiecesUptoCard : Claim7 := { stood := { row := blakePiecesUptoRow, standIns := [], harness := (true, "8678e90eacb5c6dbde01174dc4ce6ac8d7b1db47a5ade3639081fea64be77602"), looks := false }, kinds := [], alts := [], laidByText := true, laidKinds := [.data], laidTests := true, laidLooks := .later }
def BlakePiecesUptoCardSaid : Prop := Claim7.holds Tryd.pinned (.plain (OpenSpec.upto blakePiecesSpec)) blakePiecesUptoCard

/-- THE SECOND FORM's CARD OF 'nunciolaw03.BlakeApart'. -/
def blakeApartUptoCard : Claim7 := { stood := { row := blakeApartUptoRow, standIns := [], harness := (true, "8678e90eacb5c6dbde01174dc4ce6ac8d7b1db47a5ade3639081fea64be77602"), looks := false }, kinds := [], alts := [], laidByText := true, laidKinds := [.data], laidTests := true, laidLooks := .later }
def BlakeApartUptoCardSaid : Prop := Claim7.holds Tryd.pinned (.plain (OpenSpec.upto blakeApartSpec)) blakeApartUptoCard

/-- THE SECOND FORM's CARD OF 'nunciolaw03.BlakeTells'. -/
def blakeTellsUptoCard : Claim7 := { stood := { row := blakeTellsUptoRow, standIns := [], harness := (true, "8678e90eacb5c6dbde01174dc4ce6ac8d7b1db47a5ade3639081fea64be77602"), looks := false }, kinds := [], alts := [], laidByText := true, laidKinds := [.data], laidTests := true, laidLooks := .later }
def BlakeTellsUptoCardSaid : Prop := Claim7.holds Tryd.pinned (.plain (OpenSpec.upto blakeTellsSpec)) blakeTellsUptoCard

/-- THE SECOND FORM's CARD OF 'nunciolaw03.BlakeTags'. -/
def blakeTagsUptoCard : Claim7 := { stood := { row := blakeTagsUptoRow, standIns := [], harness := (true, "8678e90eacb5c6dbde01174dc4ce6ac8d7b1db47a5ade3639081fea64be77602"), looks := false }, kinds := [], alts := [], laidByText := true, laidKinds := [.data], laidTests := true, laidLooks := .later }
def BlakeTagsUptoCardSaid : Prop := Claim7.holds Tryd.pinned (.plain (OpenSpec.upto blakeTagsSpec)) blakeTagsUptoCard
end Rows
end Go.Proofs.YtmiifbamflkiaaaDoor
