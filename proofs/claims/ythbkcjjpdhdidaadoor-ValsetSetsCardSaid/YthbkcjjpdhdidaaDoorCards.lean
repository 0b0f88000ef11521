/-
  DERIVED. GIVEN WITH THE SEED: THE CARDS: each row of YthbkcjjpdhdidaaDoorRows.lean that lists a variable, with what it lists TIED to the program's text (the seventh form; the later family's looks); each row that meets fmt, with fmt's text TOLD by the authors' own Lean function (tested against real Go, not proved from fmt's source: count such statements apart). THE CARD IS WHAT COUNTS. Prove the row's statement (the work); the ties are given (YthbkcjjpdhdidaaDoorTie.lean); close each card by the builder's one call (the guide's Derived/Test/ToyasCard.lean, 'card_holds'). Laid BY PROGRAM, IN A SANDBOX (cutbox-door.mjs). By AI agents, Wed Nov 11 2026. No macro, syntax, notation, axiom, sorry.
-/
import Derived.Test.YthbkcjjpdhdidaaDoorRows
import GoSem.ClaimSeven
namespace Go.Proofs.YthbkcjjpdhdidaaDoor
namespace Rows

/-- THE TIED CARD OF 'nunciolaw07.ValsetSets'. -/
def valsetSetsCard : Claim7 := { stood := { row := valsetSetsRow, standIns := [], harness := (true, "73a324c5753deab8874f800d7ba3089a79b096fe37046c2b11a95e965d333143"), looks := true }, kinds := [], alts := [], laidByText := true, laidKinds := [.data, .sentinel], laidTests := true, laidLooks := .later }
def ValsetSetsCardSaid : Prop := Claim7.holds Tryd.pinned (.plain (OpenSpec.ofChange valsetSetsSpec)) valsetSetsCard

/-- THE SECOND FORM's CARD OF 'nunciolaw07.ValsetSets'. -/
def valsetSetsUptoCard : Claim7 := { stood := { row := valsetSetsUptoRow, standIns := [], harness := (true, "73a324c5753deab8874f800d7ba3089a79b096fe37046c2b11a95e965d333143"), looks := true }, kinds := [], alts := [], laidByText := true, laidKinds := [.data, .sentinel], laidTests := true, laidLooks := .later }
def ValsetSetsUptoCardSaid : Prop := Claim7.holds Tryd.pinned (.plain (OpenSpec.upto valsetSetsSpec)) valsetSetsUptoCard
end Rows
end Go.Proofs.YthbkcjjpdhdidaaDoor
