/-
  NARROWER THAN 'FOR EVERY INPUT', by the rows' own cells (each row's printed sentence says how): RoundSteps: laid · RoundOnce: laid · RoundLocks: laid · RoundEnds: laid · RoundValid: laid · RoundWaits: laid · RoundQuiet: laid.
  DERIVED. THE GIVEN ROWS OF THIS SEAT. 7 by the template 'for every input the law returns true; each argument reads behind the call as it read before'; 0 by the template 'total and deterministic' (their statements: YtlhnhdkbfkbafaaDoorTotals.lean).
  GIVEN WITH THE SEED: the statements are not yours to turn. If you find one false, say at which input.
  Laid BY PROGRAM, IN A SANDBOX (cutbox-rows.mjs): the forced cells as the released guide's own fill.sh prints them over the translation 487b8a6ed64b9e4f… (all of the seat's roots in one cut). By AI agents, Wed Nov 11 2026. No macro, syntax, notation, axiom, sorry.
-/
import Derived.Test.YtlhnhdkbfkbafaaDoorChecked
import GoSem.Claim
import GoSem.ClaimJoined
import GoSem.ClaimMapViews
import Derived.JoinedTies
import Derived.KernelRfl
namespace Go.Proofs.YtlhnhdkbfkbafaaDoor
/- THE CELL 'sum', in the pinned program and in every row, IS THE sha256 OF THE DUMP (.gsa) THAT YtlhnhdkbfkbafaaDoorProg.lean LOADS. Nothing in Lean hashes anything: it is a label: what it is worth is what the hold of that sum in a sandbox is worth. -/
noncomputable def Tryd.pinned : Pinned := { name := "ytlhnhdkbfkbafaadoor", sum := "487b8a6ed64b9e4ffd6cc193f7b180c6c059aff97c001eafb998d6f0515de05d", checked := Tryd.checked }
namespace Rows
def none {H : Type} : Left H := { results := [], args := [] }

/- WHAT THE LISTED PACKAGE-LEVEL VARIABLES READ AS WHEN THE CALL BEGINS. Each datum BY PROGRAM (the guide's laid-datum.mjs) off the statement by which the dump's own 'gosem.cut.vars' lays the variable. In a bare row this is a premise. The card (YtlhnhdkbfkbafaaDoorCards.lean) ties it to the program's text. -/
def laid_nuncio_round_none {H : Type} : DataW H := .agg [.lit (.int .u8 0), .lit (.int .u8 0), .lit (.int .u8 0), .lit (.int .u8 0), .lit (.int .u8 0), .lit (.int .u8 0), .lit (.int .u8 0), .lit (.int .u8 0), .lit (.int .u8 0), .lit (.int .u8 0), .lit (.int .u8 0), .lit (.int .u8 0), .lit (.int .u8 0), .lit (.int .u8 0), .lit (.int .u8 0), .lit (.int .u8 0), .lit (.int .u8 0), .lit (.int .u8 0), .lit (.int .u8 0), .lit (.int .u8 0), .lit (.int .u8 0), .lit (.int .u8 0), .lit (.int .u8 0), .lit (.int .u8 0), .lit (.int .u8 0), .lit (.int .u8 0), .lit (.int .u8 0), .lit (.int .u8 0), .lit (.int .u8 0), .lit (.int .u8 0), .lit (.int .u8 0), .lit (.int .u8 0)]

/-- 'nunciolaw12.RoundSteps': WHATEVER THE INPUT: true; the input reads as it did. -/
def roundStepsSpec : ChangeSpec := { name := "roundSteps", fn := fun _ => fun
  | [d1, d2] => { results := [.lit (.bool true)], args := [d1, d2] }
  | _ => none }
def roundStepsRow : OpenClaim := { program := "ytlhnhdkbfkbafaadoor", sum := "487b8a6ed64b9e4ffd6cc193f7b180c6c059aff97c001eafb998d6f0515de05d", func := "nuncio/nunciolaw12.RoundSteps", spec := "roundSteps", named := ["nuncio/round.none"], apart := false, laid := [("nuncio/round.none", laid_nuncio_round_none)] }
def RoundStepsSaid : Prop := roundStepsRow.holds Tryd.pinned (OpenSpec.ofChange roundStepsSpec)

/-- ITS FALSE NEIGHBOUR: 'it returns false'. Refute it at one input. -/
def roundStepsWrong : ChangeSpec := { name := "roundSteps", fn := fun _ => fun
  | [d1, d2] => { results := [.lit (.bool false)], args := [d1, d2] }
  | _ => none }
def RoundStepsWrongFalsely : Prop := roundStepsRow.holds Tryd.pinned (OpenSpec.ofChange roundStepsWrong)

/-- 'nunciolaw12.RoundOnce': WHATEVER THE INPUT: true; the input reads as it did. -/
def roundOnceSpec : ChangeSpec := { name := "roundOnce", fn := fun _ => fun
  | [d] => { results := [.lit (.bool true)], args := [d] }
  | _ => none }
def roundOnceRow : OpenClaim := { program := "ytlhnhdkbfkbafaadoor", sum := "487b8a6ed64b9e4ffd6cc193f7b180c6c059aff97c001eafb998d6f0515de05d", func := "nuncio/nunciolaw12.RoundOnce", spec := "roundOnce", named := ["nuncio/round.none"], apart := false, laid := [("nuncio/round.none", laid_nuncio_round_none)] }
def RoundOnceSaid : Prop := roundOnceRow.holds Tryd.pinned (OpenSpec.ofChange roundOnceSpec)

/-- ITS FALSE NEIGHBOUR: 'it returns false'. Refute it at one input. -/
def roundOnceWrong : ChangeSpec := { name := "roundOnce", fn := fun _ => fun
  | [d] => { results := [.lit (.bool false)], args := [d] }
  | _ => none }
def RoundOnceWrongFalsely : Prop := roundOnceRow.holds Tryd.pinned (OpenSpec.ofChange roundOnceWrong)

/-- 'nunciolaw12.RoundLocks': WHATEVER THE INPUT: true; the input reads as it did. -/
def roundLocksSpec : ChangeSpec := { name := "roundLocks", fn := fun _ => fun
  | [d] => { results := [.lit (.bool true)], args := [d] }
  | _ => none }
def roundLocksRow : OpenClaim := { program := "ytlhnhdkbfkbafaadoor", sum := "487b8a6ed64b9e4ffd6cc193f7b180c6c059aff97c001eafb998d6f0515de05d", func := "nuncio/nunciolaw12.RoundLocks", spec := "roundLocks", named := ["nuncio/round.none"], apart := false, laid := [("nuncio/round.none", laid_nuncio_round_none)] }
def RoundLocksSaid : Prop := roundLocksRow.holds Tryd.pinned (OpenSpec.ofChange roundLocksSpec)

/-- ITS FALSE NEIGHBOUR: 'it returns false'. Refute it at one input. -/
def roundLocksWrong : ChangeSpec := { name := "roundLocks", fn := fun _ => fun
  | [d] => { results := [.lit (.bool false)], args := [d] }
  | _ => none }
def RoundLocksWrongFalsely : Prop := roundLocksRow.holds Tryd.pinned (OpenSpec.ofChange roundLocksWrong)

/-- 'nunciolaw12.RoundEnds': WHATEVER THE INPUT: true; the input reads as it did. -/
def roundEndsSpec : ChangeSpec := { name := "roundEnds", fn := fun _ => fun
  | [d] => { results := [.lit (.bool true)], args := [d] }
  | _ => none }
def roundEndsRow : OpenClaim := { program := "ytlhnhdkbfkbafaadoor", sum := "487b8a6ed64b9e4ffd6cc193f7b180c6c059aff97c001eafb998d6f0515de05d", func := "nuncio/nunciolaw12.RoundEnds", spec := "roundEnds", named := ["nuncio/round.none"], apart := false, laid := [("nuncio/round.none", laid_nuncio_round_none)] }
def RoundEndsSaid : Prop := roundEndsRow.holds Tryd.pinned (OpenSpec.ofChange roundEndsSpec)

/-- ITS FALSE NEIGHBOUR: 'it returns false'. Refute it at one input. -/
def roundEndsWrong : ChangeSpec := { name := "roundEnds", fn := fun _ => fun
  | [d] => { results := [.lit (.bool false)], args := [d] }
  | _ => none }
def RoundEndsWrongFalsely : Prop := roundEndsRow.holds Tryd.pinned (OpenSpec.ofChange roundEndsWrong)

/-- 'nunciolaw12.RoundValid': WHATEVER THE INPUT: true; the input reads as it did. -/
def roundValidSpec : ChangeSpec := { name := "roundValid", fn := fun _ => fun
  | [d] => { results := [.lit (.bool true)], args := [d] }
  | _ => none }
def roundValidRow : OpenClaim := { program := "ytlhnhdkbfkbafaadoor", sum := "487b8a6ed64b9e4ffd6cc193f7b180c6c059aff97c001eafb998d6f0515de05d", func := "nuncio/nunciolaw12.RoundValid", spec := "roundValid", named := ["nuncio/round.none"], apart := false, laid := [("nuncio/round.none", laid_nuncio_round_none)] }
def RoundValidSaid : Prop := roundValidRow.holds Tryd.pinned (OpenSpec.ofChange roundValidSpec)

/-- ITS FALSE NEIGHBOUR: 'it returns false'. Refute it at one input. -/
def roundValidWrong : ChangeSpec := { name := "roundValid", fn := fun _ => fun
  | [d] => { results := [.lit (.bool false)], args := [d] }
  | _ => none }
def RoundValidWrongFalsely : Prop := roundValidRow.holds Tryd.pinned (OpenSpec.ofChange roundValidWrong)

/-- 'nunciolaw12.RoundWaits': WHATEVER THE INPUT: true; the input reads as it did. -/
def roundWaitsSpec : ChangeSpec := { name := "roundWaits", fn := fun _ => fun
  | [d] => { results := [.lit (.bool true)], args := [d] }
  | _ => none }
def roundWaitsRow : OpenClaim := { program := "ytlhnhdkbfkbafaadoor", sum := "487b8a6ed64b9e4ffd6cc193f7b180c6c059aff97c001eafb998d6f0515de05d", func := "nuncio/nunciolaw12.RoundWaits", spec := "roundWaits", named := ["nuncio/round.none"], apart := false, laid := [("nuncio/round.none", laid_nuncio_round_none)] }
def RoundWaitsSaid : Prop := roundWaitsRow.holds Tryd.pinned (OpenSpec.ofChange roundWaitsSpec)

/-- ITS FALSE NEIGHBOUR: 'it returns false'. Refute it at one input. -/
def roundWaitsWrong : ChangeSpec := { name := "roundWaits", fn := fun _ => fun
  | [d] => { results := [.lit (.bool false)], args := [d] }
  | _ => none }
def RoundWaitsWrongFalsely : Prop := roundWaitsRow.holds Tryd.pinned (OpenSpec.ofChange roundWaitsWrong)

/-- 'nunciolaw12.RoundQuiet': WHATEVER THE INPUT: true; the input reads as it did. -/
def roundQuietSpec : ChangeSpec := { name := "roundQuiet", fn := fun _ => fun
  | [d1, d2] => { results := [.lit (.bool true)], args := [d1, d2] }
  | _ => none }
def roundQuietRow : OpenClaim := { program := "ytlhnhdkbfkbafaadoor", sum := "487b8a6ed64b9e4ffd6cc193f7b180c6c059aff97c001eafb998d6f0515de05d", func := "nuncio/nunciolaw12.RoundQuiet", spec := "roundQuiet", named := ["nuncio/round.none"], apart := false, laid := [("nuncio/round.none", laid_nuncio_round_none)] }
def RoundQuietSaid : Prop := roundQuietRow.holds Tryd.pinned (OpenSpec.ofChange roundQuietSpec)

/-- ITS FALSE NEIGHBOUR: 'it returns false'. Refute it at one input. -/
def roundQuietWrong : ChangeSpec := { name := "roundQuiet", fn := fun _ => fun
  | [d1, d2] => { results := [.lit (.bool false)], args := [d1, d2] }
  | _ => none }
def RoundQuietWrongFalsely : Prop := roundQuietRow.holds Tryd.pinned (OpenSpec.ofChange roundQuietWrong)

/- THE SECOND FORM. 'bulk': how many values and letters a reading holds, each counted each time it is reached (what is shared counts as often as it is met; a slice's spare places count too). A statement '..UptoSaid' is the law's where the arguments, and the package variables that the reading takes, are together of bulk at most 1048576: NARROWER than '..Said'. Prove '..Said' where nothing that the law and all that it calls make is longer than what came in: it says more and counts as full. Else prove '..UptoSaid'. A law counts once. -/
mutual
def uptoBulk {H : Type} : DataW H → Nat
  | .lit (.string bytes) => bytes.length + 1
  | .lit _ => 1
  | .nil => 1
  | .ptr d => uptoBulk d + 1
  | .slice elems spare => uptoBulkAll elems + uptoBulkAll spare + 1
  | .agg parts => uptoBulkAll parts + 1
  | .iface _ d => uptoBulk d + 1
  | .map entries => uptoBulkEntries entries + 1
  | .held _ => 1
def uptoBulkAll {H : Type} : List (DataW H) → Nat
  | [] => 0
  | d :: r => uptoBulk d + uptoBulkAll r
def uptoBulkEntries {H : Type} : List (Lit × DataW H) → Nat
  | [] => 0
  | x :: r => uptoBulkEntry x + uptoBulkEntries r
def uptoBulkEntry {H : Type} : Lit × DataW H → Nat
  | (.string bytes, d) => bytes.length + uptoBulk d + 1
  | (_, d) => uptoBulk d + 1
 end
def uptoSmall : (H : Type) → List (DataW H) → Bool := fun _ ds => decide (uptoBulkAll ds ≤ 1048576)
def OpenSpec.upto (s : _root_.Go.ChangeSpec) : _root_.Go.OpenSpec := { _root_.Go.OpenSpec.ofChange s with cond := some uptoSmall }

/-- 'nunciolaw12.RoundSteps', WHERE WHAT IT READS IS OF BULK AT MOST 1048576: true; the input reads as it did. -/
def roundStepsUptoRow : OpenClaim := { program := "ytlhnhdkbfkbafaadoor", sum := "487b8a6ed64b9e4ffd6cc193f7b180c6c059aff97c001eafb998d6f0515de05d", func := "nuncio/nunciolaw12.RoundSteps", spec := "roundSteps", named := ["nuncio/round.none"], apart := false, laid := [("nuncio/round.none", laid_nuncio_round_none)], narrowed := true }
def RoundStepsUptoSaid : Prop := roundStepsUptoRow.holds Tryd.pinned (OpenSpec.upto roundStepsSpec)

/-- 'nunciolaw12.RoundOnce', WHERE WHAT IT READS IS OF BULK AT MOST 1048576: true; the input reads as it did. -/
def roundOnceUptoRow : OpenClaim := { program := "ytlhnhdkbfkbafaadoor", sum := "487b8a6ed64b9e4ffd6cc193f7b180c6c059aff97c001eafb998d6f0515de05d", func := "nuncio/nunciolaw12.RoundOnce", spec := "roundOnce", named := ["nuncio/round.none"], apart := false, laid := [("nuncio/round.none", laid_nuncio_round_none)], narrowed := true }
def RoundOnceUptoSaid : Prop := roundOnceUptoRow.holds Tryd.pinned (OpenSpec.upto roundOnceSpec)

/-- 'nunciolaw12.RoundLocks', WHERE WHAT IT READS IS OF BULK AT MOST 1048576: true; the input reads as it did. -/
def roundLocksUptoRow : OpenClaim := { program := "ytlhnhdkbfkbafaadoor", sum := "487b8a6ed64b9e4ffd6cc193f7b180c6c059aff97c001eafb998d6f0515de05d", func := "nuncio/nunciolaw12.RoundLocks", spec := "roundLocks", named := ["nuncio/round.none"], apart := false, laid := [("nuncio/round.none", laid_nuncio_round_none)], narrowed := true }
def RoundLocksUptoSaid : Prop := roundLocksUptoRow.holds Tryd.pinned (OpenSpec.upto roundLocksSpec)

/-- 'nunciolaw12.RoundEnds', WHERE WHAT IT READS IS OF BULK AT MOST 1048576: true; the input reads as it did. -/
def roundEndsUptoRow : OpenClaim := { program := "ytlhnhdkbfkbafaadoor", sum := "487b8a6ed64b9e4ffd6cc193f7b180c6c059aff97c001eafb998d6f0515de05d", func := "nuncio/nunciolaw12.RoundEnds", spec := "roundEnds", named := ["nuncio/round.none"], apart := false, laid := [("nuncio/round.none", laid_nuncio_round_none)], narrowed := true }
def RoundEndsUptoSaid : Prop := roundEndsUptoRow.holds Tryd.pinned (OpenSpec.upto roundEndsSpec)

/-- 'nunciolaw12.RoundValid', WHERE WHAT IT READS IS OF BULK AT MOST 1048576: true; the input reads as it did. -/
def roundValidUptoRow : OpenClaim := { program := "ytlhnhdkbfkbafaadoor", sum := "487b8a6ed64b9e4ffd6cc193f7b180c6c059aff97c001eafb998d6f0515de05d", func := "nuncio/nunciolaw12.RoundValid", spec := "roundValid", named := ["nuncio/round.none"], apart := false, laid := [("nuncio/round.none", laid_nuncio_round_none)], narrowed := true }
def RoundValidUptoSaid : Prop := roundValidUptoRow.holds Tryd.pinned (OpenSpec.upto roundValidSpec)

/-- 'nunciolaw12.RoundWaits', WHERE WHAT IT READS IS OF BULK AT MOST 1048576: true; the input reads as it did. -/
def roundWaitsUptoRow : OpenClaim := { program := "ytlhnhdkbfkbafaadoor", sum := "487b8a6ed64b9e4ffd6cc193f7b180c6c059aff97c001eafb998d6f0515de05d", func := "nuncio/nunciolaw12.RoundWaits", spec := "roundWaits", named := ["nuncio/round.none"], apart := false, laid := [("nuncio/round.none", laid_nuncio_round_none)], narrowed := true }
def RoundWaitsUptoSaid : Prop := roundWaitsUptoRow.holds Tryd.pinned (OpenSpec.upto roundWaitsSpec)

/-- 'nunciolaw12.RoundQuiet', WHERE WHAT IT READS IS OF BULK AT MOST 1048576: true; the input reads as it did. -/
def roundQuietUptoRow : OpenClaim := { program := "ytlhnhdkbfkbafaadoor", sum := "487b8a6ed64b9e4ffd6cc193f7b180c6c059aff97c001eafb998d6f0515de05d", func := "nuncio/nunciolaw12.RoundQuiet", spec := "roundQuiet", named := ["nuncio/round.none"], apart := false, laid := [("nuncio/round.none", laid_nuncio_round_none)], narrowed := true }
def RoundQuietUptoSaid : Prop := roundQuietUptoRow.holds Tryd.pinned (OpenSpec.upto roundQuietSpec)

end Rows
end Go.Proofs.YtlhnhdkbfkbafaaDoor
