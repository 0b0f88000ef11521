/-
  DERIVED. GIVEN WITH THE SEED: THE CARDS: each row of YtlhnhdkbfkbafaaDoorRows.lean that lists a variable, with what it lists TIED to the program's text (the seventh form; the later family's looks); each row that meets fmt, with fmt's text TOLD by the authors' own Lean function (tested against real Go, not proved from fmt's source: count such statements apart). THE CARD IS WHAT COUNTS. Prove the row's statement (the work); the ties are given (YtlhnhdkbfkbafaaDoorTie.lean); close each card by the builder's one call (the guide's Derived/Test/ToyasCard.lean, 'card_holds'). Laid BY PROGRAM, IN A SANDBOX (cutbox-door.mjs). By AI agents, Wed Nov 11 2026. No macro, syntax, notation, axiom, sorry.
-/
import Derived.Test.YtlhnhdkbfkbafaaDoorRows
import GoSem.ClaimSeven
namespace Go.Proofs.YtlhnhdkbfkbafaaDoor
namespace Rows

/-- THE TIED CARD OF 'nunciolaw12.RoundSteps'. -/
def roundStepsCard : Claim7 := { stood := { row := roundStepsRow, standIns := [], harness := (true, "21e1c6ea9c09aad257294c477738edf47c42d739e41b2667386ed481442c2071"), looks := false }, kinds := [], alts := [], laidByText := true, laidKinds := [.data], laidTests := true, laidLooks := .later }
def RoundStepsCardSaid : Prop := Claim7.holds Tryd.pinned (.plain (OpenSpec.ofChange roundStepsSpec)) roundStepsCard

/-- THE TIED CARD OF 'nunciolaw12.RoundOnce'. -/
def roundOnceCard : Claim7 := { stood := { row := roundOnceRow, standIns := [], harness := (true, "21e1c6ea9c09aad257294c477738edf47c42d739e41b2667386ed481442c2071"), looks := false }, kinds := [], alts := [], laidByText := true, laidKinds := [.data], laidTests := true, laidLooks := .later }
def RoundOnceCardSaid : Prop := Claim7.holds Tryd.pinned (.plain (OpenSpec.ofChange roundOnceSpec)) roundOnceCard

/-- THE TIED CARD OF 'nunciolaw12.RoundLocks'. -/
def roundLocksCard : Claim7 := { stood := { row := roundLocksRow, standIns := [], harness := (true, "21e1c6ea9c09aad257294c477738edf47c42d739e41b2667386ed481442c2071"), looks := false }, kinds := [], alts := [], laidByText := true, laidKinds := [.data], laidTests := true, laidLooks := .later }
def RoundLocksCardSaid : Prop := Claim7.holds Tryd.pinned (.plain (OpenSpec.ofChange roundLocksSpec)) roundLocksCard

/-- THE TIED CARD OF 'nunciolaw12.RoundEnds'. -/
def roundEndsCard : Claim7 := { stood := { row := roundEndsRow, standIns := [], harness := (true, "21e1c6ea9c09aad257294c477738edf47c42d739e41b2667386ed481442c2071"), looks := false }, kinds := [], alts := [], laidByText := true, laidKinds := [.data], laidTests := true, laidLooks := .later }
def RoundEndsCardSaid : Prop := Claim7.holds Tryd.pinned (.plain (OpenSpec.ofChange roundEndsSpec)) roundEndsCard

/-- THE TIED CARD OF 'nunciolaw12.RoundValid'. -/
def roundValidCard : Claim7 := { stood := { row := roundValidRow, standIns := [], harness := (true, "21e1c6ea9c09aad257294c477738edf47c42d739e41b2667386ed481442c2071"), looks := false }, kinds := [], alts := [], laidByText := true, laidKinds := [.data], laidTests := true, laidLooks := .later }
def RoundValidCardSaid : Prop := Claim7.holds Tryd.pinned (.plain (OpenSpec.ofChange roundValidSpec)) roundValidCard

/-- THE TIED CARD OF 'nunciolaw12.RoundWaits'. -/
def roundWaitsCard : Claim7 := { stood := { row := roundWaitsRow, standIns := [], harness := (true, "21e1c6ea9c09aad257294c477738edf47c42d739e41b2667386ed481442c2071"), looks := false }, kinds := [], alts := [], laidByText := true, laidKinds := [.data], laidTests := true, laidLooks := .later }
def RoundWaitsCardSaid : Prop := Claim7.holds Tryd.pinned (.plain (OpenSpec.ofChange roundWaitsSpec)) roundWaitsCard

/-- THE TIED CARD OF 'nunciolaw12.RoundQuiet'. -/
def roundQuietCard : Claim7 := { stood := { row := roundQuietRow, standIns := [], harness := (true, "21e1c6ea9c09aad257294c477738edf47c42d739e41b2667386ed481442c2071"), looks := false }, kinds := [], alts := [], laidByText := true, laidKinds := [.data], laidTests := true, laidLooks := .later }
def RoundQuietCardSaid : Prop := Claim7.holds Tryd.pinned (.plain (OpenSpec.ofChange roundQuietSpec)) roundQuietCard

/-- THE SECOND FORM's CARD OF 'nunciolaw12.RoundSteps'. -/
def roundStepsUptoCard : Claim7 := { stood := { row := roundStepsUptoRow, standIns := [], harness := (true, "21e1c6ea9c09aad257294c477738edf47c42d739e41b2667386ed481442c2071"), looks := false }, kinds := [], alts := [], laidByText := true, laidKinds := [.data], laidTests := true, laidLooks := .later }
def RoundStepsUptoCardSaid : Prop := Claim7.holds Tryd.pinned (.plain (OpenSpec.upto roundStepsSpec)) roundStepsUptoCard

/-- THE SECOND FORM's CARD OF 'nunciolaw12.RoundOnce'. -/
def roundOnceUptoCard : Claim7 := { stood := { row := roundOnceUptoRow, standIns := [], harness := (true, "21e1c6ea9c09aad257294c477738edf47c42d739e41b2667386ed481442c2071"), looks := false }, kinds := [], alts := [], laidByText := true, laidKinds := [.data], laidTests := true, laidLooks := .later }
def RoundOnceUptoCardSaid : Prop := Claim7.holds Tryd.pinned (.plain (OpenSpec.upto roundOnceSpec)) roundOnceUptoCard

/-- THE SECOND FORM's CARD OF 'nunciolaw12.RoundLocks'. -/
def roundLocksUptoCard : Claim7 := { stood := { row := roundLocksUptoRow, standIns := [], harness := (true, "21e1c6ea9c09aad257294c477738edf47c42d739e41b2667386ed481442c2071"), looks := false }, kinds := [], alts := [], laidByText := true, laidKinds := [.data], laidTests := true, laidLooks := .later }
def RoundLocksUptoCardSaid : Prop := Claim7.holds Tryd.pinned (.plain (OpenSpec.upto roundLocksSpec)) roundLocksUptoCard

/-- THE SECOND FORM's CARD OF 'nunciolaw12.RoundEnds'. -/
def roundEndsUptoCard : Claim7 := { stood := { row := roundEndsUptoRow, standIns := [], harness := (true, "21e1c6ea9c09aad257294c477738edf47c42d739e41b2667386ed481442c2071"), looks := false }, kinds := [], alts := [], laidByText := true, laidKinds := [.data], laidTests := true, laidLooks := .later }
def RoundEndsUptoCardSaid : Prop := Claim7.holds Tryd.pinned (.plain (OpenSpec.upto roundEndsSpec)) roundEndsUptoCard

/-- THE SECOND FORM's CARD OF 'nunciolaw12.RoundValid'. -/
def roundValidUptoCard : Claim7 := { stood := { row := roundValidUptoRow, standIns := [], harness := (true, "21e1c6ea9c09aad257294c477738edf47c42d739e41b2667386ed481442c2071"), looks := false }, kinds := [], alts := [], laidByText := true, laidKinds := [.data], laidTests := true, laidLooks := .later }
def RoundValidUptoCardSaid : Prop := Claim7.holds Tryd.pinned (.plain (OpenSpec.upto roundValidSpec)) roundValidUptoCard

/-- THE SECOND FORM's CARD OF 'nunciolaw12.RoundWaits'. -/
def roundWaitsUptoCard : Claim7 := { stood := { row := roundWaitsUptoRow, standIns := [], harness := (true, "21e1c6ea9c09aad257294c477738edf47c42d739e41b2667386ed481442c2071"), looks := false }, kinds := [], alts := [], laidByText := true, laidKinds := [.data], laidTests := true, laidLooks := .later }
def RoundWaitsUptoCardSaid : Prop := Claim7.holds Tryd.pinned (.plain (OpenSpec.upto roundWaitsSpec)) roundWaitsUptoCard

/-- THE SECOND FORM's CARD OF 'nunciolaw12.RoundQuiet'. -/
def roundQuietUptoCard : Claim7 := { stood := { row := roundQuietUptoRow, standIns := [], harness := (true, "21e1c6ea9c09aad257294c477738edf47c42d739e41b2667386ed481442c2071"), looks := false }, kinds := [], alts := [], laidByText := true, laidKinds := [.data], laidTests := true, laidLooks := .later }
def RoundQuietUptoCardSaid : Prop := Claim7.holds Tryd.pinned (.plain (OpenSpec.upto roundQuietSpec)) roundQuietUptoCard
end Rows
end Go.Proofs.YtlhnhdkbfkbafaaDoor
