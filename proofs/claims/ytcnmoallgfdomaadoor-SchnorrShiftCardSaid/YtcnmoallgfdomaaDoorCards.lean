/-
  DERIVED. GIVEN WITH THE SEED: THE CARDS: each row of YtcnmoallgfdomaaDoorRows.lean that lists a variable, with what it lists TIED to the program's text (the seventh form; the later family's looks); each row that meets fmt, with fmt's text TOLD by the authors' own Lean function (tested against real Go, not proved from fmt's source: count such statements apart). THE CARD IS WHAT COUNTS. Prove the row's statement (the work); the ties are given (YtcnmoallgfdomaaDoorTie.lean); close each card by the builder's one call (the guide's Derived/Test/ToyasCard.lean, 'card_holds'). Laid BY PROGRAM, IN A SANDBOX (cutbox-door.mjs). By AI agents, Wed Nov 11 2026. No macro, syntax, notation, axiom, sorry.
-/
import Derived.Test.YtcnmoallgfdomaaDoorRows
import GoSem.ClaimSeven
namespace Go.Proofs.YtcnmoallgfdomaaDoor
namespace Rows

/-- THE TIED CARD OF 'nunciolaw04.SchnorrVerifies'. -/
def schnorrVerifiesCard : Claim7 := { stood := { row := schnorrVerifiesRow, standIns := [], harness := (true, "b6c930e374ea3e7bd4bca48b4eeec1eac4c94d240d5bf3e10dc320e2464805aa"), looks := false }, kinds := [], alts := [], laidByText := true, laidKinds := [.data], laidTests := true, laidLooks := .later }
def SchnorrVerifiesCardSaid : Prop := Claim7.holds Tryd.pinned (.plain (OpenSpec.ofChange schnorrVerifiesSpec)) schnorrVerifiesCard

/-- THE TIED CARD OF 'nunciolaw04.SchnorrSigns'. -/
def schnorrSignsCard : Claim7 := { stood := { row := schnorrSignsRow, standIns := [], harness := (true, "b6c930e374ea3e7bd4bca48b4eeec1eac4c94d240d5bf3e10dc320e2464805aa"), looks := false }, kinds := [], alts := [], laidByText := true, laidKinds := [.data], laidTests := true, laidLooks := .later }
def SchnorrSignsCardSaid : Prop := Claim7.holds Tryd.pinned (.plain (OpenSpec.ofChange schnorrSignsSpec)) schnorrSignsCard

/-- THE TIED CARD OF 'nunciolaw04.SchnorrRight'. -/
def schnorrRightCard : Claim7 := { stood := { row := schnorrRightRow, standIns := [], harness := (true, "b6c930e374ea3e7bd4bca48b4eeec1eac4c94d240d5bf3e10dc320e2464805aa"), looks := false }, kinds := [], alts := [], laidByText := true, laidKinds := [.data], laidTests := true, laidLooks := .later }
def SchnorrRightCardSaid : Prop := Claim7.holds Tryd.pinned (.plain (OpenSpec.ofChange schnorrRightSpec)) schnorrRightCard

/-- THE TIED CARD OF 'nunciolaw04.SchnorrShift'. -/
def schnorrShiftCard : Claim7 := { stood := { row := schnorrShiftRow, standIns := [], harness := (true, "b6c930e374ea3e7bd4bca48b4eeec1eac4c94d240d5bf3e10dc320e2464805aa"), looks := false }, kinds := [], alts := [], laidByText := true, laidKinds := [.data], laidTests := true, laidLooks := .later }
def SchnorrShiftCardSaid : Prop := Claim7.holds Tryd.pinned (.plain (OpenSpec.ofChange schnorrShiftSpec)) schnorrShiftCard

/-- THE SECOND FORM's CARD OF 'nunciolaw04.SchnorrVerifies'. -/
def schnorrVerifiesUptoCard : Claim7 := { stood := { row := schnorrVerifiesUptoRow, standIns := [], harness := (true, "b6c930e374ea3e7bd4bca48b4eeec1eac4c94d240d5bf3e10dc320e2464805aa"), looks := false }, kinds := [], alts := [], laidByText := true, laidKinds := [.data], laidTests := true, laidLooks := .later }
def SchnorrVerifiesUptoCardSaid : Prop := Claim7.holds Tryd.pinned (.plain (OpenSpec.upto schnorrVerifiesSpec)) schnorrVerifiesUptoCard

/-- THE SECOND FORM's CARD OF 'nunciolaw04.SchnorrSigns'. -/
def schnorrSignsUptoCard : Claim7 := { stood := { row := schnorrSignsUptoRow, standIns := [], harness := (true, "b6c930e374ea3e7bd4bca48b4eeec1eac4c94d240d5bf3e10dc320e2464805aa"), looks := false }, kinds := [], alts := [], laidByText := true, laidKinds := [.data], laidTests := true, laidLooks := .later }
def SchnorrSignsUptoCardSaid : Prop := Claim7.holds Tryd.pinned (.plain (OpenSpec.upto schnorrSignsSpec)) schnorrSignsUptoCard

/-- THE SECOND FORM's CARD OF 'nunciolaw04.SchnorrRight'. -/
def schnorrRightUptoCard : Claim7 := { stood := { row := schnorrRightUptoRow, standIns := [], harness := (true, "b6c930e374ea3e7bd4bca48b4eeec1eac4c94d240d5bf3e10dc320e2464805aa"), looks := false }, kinds := [], alts := [], laidByText := true, laidKinds := [.data], laidTests := true, laidLooks := .later }
def SchnorrRightUptoCardSaid : Prop := Claim7.holds Tryd.pinned (.plain (OpenSpec.upto schnorrRightSpec)) schnorrRightUptoCard

/-- THE SECOND FORM's CARD OF 'nunciolaw04.SchnorrShift'. -/
def schnorrShiftUptoCard : Claim7 := { stood := { row := schnorrShiftUptoRow, standIns := [], harness := (true, "b6c930e374ea3e7bd4bca48b4eeec1eac4c94d240d5bf3e10dc320e2464805aa"), looks := false }, kinds := [], alts := [], laidByText := true, laidKinds := [.data], laidTests := true, laidLooks := .later }
def SchnorrShiftUptoCardSaid : Prop := Claim7.holds Tryd.pinned (.plain (OpenSpec.upto schnorrShiftSpec)) schnorrShiftUptoCard
end Rows
end Go.Proofs.YtcnmoallgfdomaaDoor
