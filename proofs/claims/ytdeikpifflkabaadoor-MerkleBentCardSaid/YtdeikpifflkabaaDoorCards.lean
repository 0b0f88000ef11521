/-
  DERIVED. GIVEN WITH THE SEED: THE CARDS: each row of YtdeikpifflkabaaDoorRows.lean that lists a variable, with what it lists TIED to the program's text (the seventh form; the later family's looks); each row that meets fmt, with fmt's text TOLD by the authors' own Lean function (tested against real Go, not proved from fmt's source: count such statements apart). THE CARD IS WHAT COUNTS. Prove the row's statement (the work); the ties are given (YtdeikpifflkabaaDoorTie.lean); close each card by the builder's one call (the guide's Derived/Test/ToyasCard.lean, 'card_holds'). Laid BY PROGRAM, IN A SANDBOX (cutbox-door.mjs). By AI agents, Wed Nov 11 2026. No macro, syntax, notation, axiom, sorry.
-/
import Derived.Test.YtdeikpifflkabaaDoorRows
import GoSem.ClaimSeven
namespace Go.Proofs.YtdeikpifflkabaaDoor
namespace Rows

/-- THE TIED CARD OF 'nunciolaw05.MerkleOther'. -/
def merkleOtherCard : Claim7 := { stood := { row := merkleOtherRow, standIns := [], harness := (true, "4a88396c1b95064cd1a3dfb5c2f8564353ae8528d55e68293d27f531f17dab18"), looks := false }, kinds := [], alts := [], laidByText := true, laidKinds := [.data], laidTests := true, laidLooks := .later }
def MerkleOtherCardSaid : Prop := Claim7.holds Tryd.pinned (.plain (OpenSpec.ofChange merkleOtherSpec)) merkleOtherCard

/-- THE TIED CARD OF 'nunciolaw05.MerkleChecks'. -/
def merkleChecksCard : Claim7 := { stood := { row := merkleChecksRow, standIns := [], harness := (true, "4a88396c1b95064cd1a3dfb5c2f8564353ae8528d55e68293d27f531f17dab18"), looks := false }, kinds := [], alts := [], laidByText := true, laidKinds := [.data], laidTests := true, laidLooks := .later }
def MerkleChecksCardSaid : Prop := Claim7.holds Tryd.pinned (.plain (OpenSpec.ofChange merkleChecksSpec)) merkleChecksCard

/-- THE TIED CARD OF 'nunciolaw05.MerkleRoots'. -/
def merkleRootsCard : Claim7 := { stood := { row := merkleRootsRow, standIns := [], harness := (true, "4a88396c1b95064cd1a3dfb5c2f8564353ae8528d55e68293d27f531f17dab18"), looks := false }, kinds := [], alts := [], laidByText := true, laidKinds := [.data], laidTests := true, laidLooks := .later }
def MerkleRootsCardSaid : Prop := Claim7.holds Tryd.pinned (.plain (OpenSpec.ofChange merkleRootsSpec)) merkleRootsCard

/-- THE TIED CARD OF 'nunciolaw05.MerkleSmall'. -/
def merkleSmallCard : Claim7 := { stood := { row := merkleSmallRow, standIns := [], harness := (true, "4a88396c1b95064cd1a3dfb5c2f8564353ae8528d55e68293d27f531f17dab18"), looks := false }, kinds := [], alts := [], laidByText := true, laidKinds := [.data], laidTests := true, laidLooks := .later }
def MerkleSmallCardSaid : Prop := Claim7.holds Tryd.pinned (.plain (OpenSpec.ofChange merkleSmallSpec)) merkleSmallCard

/-- THE TIED CARD OF 'nunciolaw05.MerkleTells'. -/
def merkleTellsCard : Claim7 := { stood := { row := merkleTellsRow, standIns := [], harness := (true, "4a88396c1b95064cd1a3dfb5c2f8564353ae8528d55e68293d27f531f17dab18"), looks := false }, kinds := [], alts := [], laidByText := true, laidKinds := [.data], laidTests := true, laidLooks := .later }
def MerkleTellsCardSaid : Prop := Claim7.holds Tryd.pinned (.plain (OpenSpec.ofChange merkleTellsSpec)) merkleTellsCard

/-- THE TIED CARD OF 'nunciolaw05.MerkleBent'. -/
def merkleBentCard : Claim7 := { stood := { row := merkleBentRow, standIns := [], harness := (true, "4a88396c1b95064cd1a3dfb5c2f8564353ae8528d55e68293d27f531f17dab18"), looks := false }, kinds := [], alts := [], laidByText := true, laidKinds := [.data], laidTests := true, laidLooks := .later }
def MerkleBentCardSaid : Prop := Claim7.holds Tryd.pinned (.plain (OpenSpec.ofChange merkleBentSpec)) merkleBentCard

/-- THE SECOND FORM's CARD OF 'nunciolaw05.MerkleOther'. -/
def merkleOtherUptoCard : Claim7 := { stood := { row := merkleOtherUptoRow, standIns := [], harness := (true, "4a88396c1b95064cd1a3dfb5c2f8564353ae8528d55e68293d27f531f17dab18"), looks := false }, kinds := [], alts := [], laidByText := true, laidKinds := [.data], laidTests := true, laidLooks := .later }
def MerkleOtherUptoCardSaid : Prop := Claim7.holds Tryd.pinned (.plain (OpenSpec.upto merkleOtherSpec)) merkleOtherUptoCard

/-- THE SECOND FORM's CARD OF 'nunciolaw05.MerkleChecks'. -/
def merkleChecksUptoCard : Claim7 := { stood := { row := merkleChecksUptoRow, standIns := [], harness := (true, "4a88396c1b95064cd1a3dfb5c2f8564353ae8528d55e68293d27f531f17dab18"), looks := false }, kinds := [], alts := [], laidByText := true, laidKinds := [.data], laidTests := true, laidLooks := .later }
def MerkleChecksUptoCardSaid : Prop := Claim7.holds Tryd.pinned (.plain (OpenSpec.upto merkleChecksSpec)) merkleChecksUptoCard

/-- THE SECOND FORM's CARD OF 'nunciolaw05.MerkleRoots'. -/
def merkleRootsUptoCard : Claim7 := { stood := { row := merkleRootsUptoRow, standIns := [], harness := (true, "4a88396c1b95064cd1a3dfb5c2f8564353ae8528d55e68293d27f531f17dab18"), looks := false }, kinds := [], alts := [], laidByText := true, laidKinds := [.data], laidTests := true, laidLooks := .later }
def MerkleRootsUptoCardSaid : Prop := Claim7.holds Tryd.pinned (.plain (OpenSpec.upto merkleRootsSpec)) merkleRootsUptoCard

/-- THE SECOND FORM's CARD OF 'nunciolaw05.MerkleSmall'. -/
def merkleSmallUptoCard : Claim7 := { stood := { row := merkleSmallUptoRow, standIns := [], harness := (true, "4a88396c1b95064cd1a3dfb5c2f8564353ae8528d55e68293d27f531f17dab18"), looks := false }, kinds := [], alts := [], laidByText := true, laidKinds := [.data], laidTests := true, laidLooks := .later }
def MerkleSmallUptoCardSaid : Prop := Claim7.holds Tryd.pinned (.plain (OpenSpec.upto merkleSmallSpec)) merkleSmallUptoCard

/-- THE SECOND FORM's CARD OF 'nunciolaw05.MerkleTells'. -/
def merkleTellsUptoCard : Claim7 := { stood := { row := merkleTellsUptoRow, standIns := [], harness := (true, "4a88396c1b95064cd1a3dfb5c2f8564353ae8528d55e68293d27f531f17dab18"), looks := false }, kinds := [], alts := [], laidByText := true, laidKinds := [.data], laidTests := true, laidLooks := .later }
def MerkleTellsUptoCardSaid : Prop := Claim7.holds Tryd.pinned (.plain (OpenSpec.upto merkleTellsSpec)) merkleTellsUptoCard

/-- THE SECOND FORM's CARD OF 'nunciolaw05.MerkleBent'. -/
def merkleBentUptoCard : Claim7 := { stood := { row := merkleBentUptoRow, standIns := [], harness := (true, "4a88396c1b95064cd1a3dfb5c2f8564353ae8528d55e68293d27f531f17dab18"), looks := false }, kinds := [], alts := [], laidByText := true, laidKinds := [.data], laidTests := true, laidLooks := .later }
def MerkleBentUptoCardSaid : Prop := Claim7.holds Tryd.pinned (.plain (OpenSpec.upto merkleBentSpec)) merkleBentUptoCard
end Rows
end Go.Proofs.YtdeikpifflkabaaDoor
