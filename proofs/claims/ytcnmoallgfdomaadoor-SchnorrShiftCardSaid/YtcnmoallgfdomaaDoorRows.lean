/-
  NARROWER THAN 'FOR EVERY INPUT', by the rows' own cells (each row's printed sentence says how): SchnorrVerifies: laid · SchnorrSigns: laid · SchnorrRight: laid · SchnorrShift: laid.
  DERIVED. THE GIVEN ROWS OF THIS SEAT. 4 by the template 'for every input the law returns true; each argument reads behind the call as it read before'; 0 by the template 'total and deterministic' (their statements: YtcnmoallgfdomaaDoorTotals.lean).
  GIVEN WITH THE SEED: the statements are not yours to turn. If you find one false, say at which input.
  Laid BY PROGRAM, IN A SANDBOX (cutbox-rows.mjs): the forced cells as the released guide's own fill.sh prints them over the translation aa8c62d572f83b62… (all of the seat's roots in one cut). By AI agents, Wed Nov 11 2026. No macro, syntax, notation, axiom, sorry.
-/
import Derived.Test.YtcnmoallgfdomaaDoorChecked
import GoSem.Claim
import GoSem.ClaimJoined
import GoSem.ClaimMapViews
import Derived.JoinedTies
import Derived.KernelRfl
namespace Go.Proofs.YtcnmoallgfdomaaDoor
/- THE CELL 'sum', in the pinned program and in every row, IS THE sha256 OF THE DUMP (.gsa) THAT YtcnmoallgfdomaaDoorProg.lean LOADS. Nothing in Lean hashes anything: it is a label: what it is worth is what the hold of that sum in a sandbox is worth. -/
noncomputable def Tryd.pinned : Pinned := { name := "ytcnmoallgfdomaadoor", sum := "aa8c62d572f83b62fa77ad1d6f9603598bfa86945a79be271cac9757b4ead5f9", checked := Tryd.checked }
namespace Rows
def none {H : Type} : Left H := { results := [], args := [] }

/- WHAT THE LISTED PACKAGE-LEVEL VARIABLES READ AS WHEN THE CALL BEGINS. Each datum BY PROGRAM (the guide's laid-datum.mjs) off the statement by which the dump's own 'gosem.cut.vars' lays the variable. In a bare row this is a premise. The card (YtcnmoallgfdomaaDoorCards.lean) ties it to the program's text. -/
def laid_nuncio_blake_roots {H : Type} : DataW H := .agg [.lit (.int .u32 1779033703), .lit (.int .u32 3144134277), .lit (.int .u32 1013904242), .lit (.int .u32 2773480762), .lit (.int .u32 1359893119), .lit (.int .u32 2600822924), .lit (.int .u32 528734635), .lit (.int .u32 1541459225)]

/-- 'nunciolaw04.SchnorrVerifies': WHATEVER THE INPUT: true; the input reads as it did. -/
def schnorrVerifiesSpec : ChangeSpec := { name := "schnorrVerifies", fn := fun _ => fun
  | [d1, d2, d3] => { results := [.lit (.bool true)], args := [d1, d2, d3] }
  | _ => none }
def schnorrVerifiesRow : OpenClaim := { program := "ytcnmoallgfdomaadoor", sum := "aa8c62d572f83b62fa77ad1d6f9603598bfa86945a79be271cac9757b4ead5f9", func := "nuncio/nunciolaw04.SchnorrVerifies", spec := "schnorrVerifies", unfollowed := true, recurses := true, named := ["math/bits.divideError", "math/bits.overflowError", "nuncio/blake.roots"], apart := false, laid := [("nuncio/blake.roots", laid_nuncio_blake_roots)] }
def SchnorrVerifiesSaid : Prop := schnorrVerifiesRow.holds Tryd.pinned (OpenSpec.ofChange schnorrVerifiesSpec)

/-- ITS FALSE NEIGHBOUR: 'it returns false'. Refute it at one input. -/
def schnorrVerifiesWrong : ChangeSpec := { name := "schnorrVerifies", fn := fun _ => fun
  | [d1, d2, d3] => { results := [.lit (.bool false)], args := [d1, d2, d3] }
  | _ => none }
def SchnorrVerifiesWrongFalsely : Prop := schnorrVerifiesRow.holds Tryd.pinned (OpenSpec.ofChange schnorrVerifiesWrong)

/-- 'nunciolaw04.SchnorrSigns': WHATEVER THE INPUT: true; the input reads as it did. -/
def schnorrSignsSpec : ChangeSpec := { name := "schnorrSigns", fn := fun _ => fun
  | [d1, d2] => { results := [.lit (.bool true)], args := [d1, d2] }
  | _ => none }
def schnorrSignsRow : OpenClaim := { program := "ytcnmoallgfdomaadoor", sum := "aa8c62d572f83b62fa77ad1d6f9603598bfa86945a79be271cac9757b4ead5f9", func := "nuncio/nunciolaw04.SchnorrSigns", spec := "schnorrSigns", unfollowed := true, recurses := true, named := ["math/bits.divideError", "math/bits.overflowError", "nuncio/blake.roots"], apart := false, laid := [("nuncio/blake.roots", laid_nuncio_blake_roots)] }
def SchnorrSignsSaid : Prop := schnorrSignsRow.holds Tryd.pinned (OpenSpec.ofChange schnorrSignsSpec)

/-- ITS FALSE NEIGHBOUR: 'it returns false'. Refute it at one input. -/
def schnorrSignsWrong : ChangeSpec := { name := "schnorrSigns", fn := fun _ => fun
  | [d1, d2] => { results := [.lit (.bool false)], args := [d1, d2] }
  | _ => none }
def SchnorrSignsWrongFalsely : Prop := schnorrSignsRow.holds Tryd.pinned (OpenSpec.ofChange schnorrSignsWrong)

/-- 'nunciolaw04.SchnorrRight': WHATEVER THE INPUT: true; the input reads as it did. -/
def schnorrRightSpec : ChangeSpec := { name := "schnorrRight", fn := fun _ => fun
  | [d1, d2] => { results := [.lit (.bool true)], args := [d1, d2] }
  | _ => none }
def schnorrRightRow : OpenClaim := { program := "ytcnmoallgfdomaadoor", sum := "aa8c62d572f83b62fa77ad1d6f9603598bfa86945a79be271cac9757b4ead5f9", func := "nuncio/nunciolaw04.SchnorrRight", spec := "schnorrRight", unfollowed := true, recurses := true, named := ["math/bits.divideError", "math/bits.overflowError", "nuncio/blake.roots"], apart := false, laid := [("nuncio/blake.roots", laid_nuncio_blake_roots)] }
def SchnorrRightSaid : Prop := schnorrRightRow.holds Tryd.pinned (OpenSpec.ofChange schnorrRightSpec)

/-- ITS FALSE NEIGHBOUR: 'it returns false'. Refute it at one input. -/
def schnorrRightWrong : ChangeSpec := { name := "schnorrRight", fn := fun _ => fun
  | [d1, d2] => { results := [.lit (.bool false)], args := [d1, d2] }
  | _ => none }
def SchnorrRightWrongFalsely : Prop := schnorrRightRow.holds Tryd.pinned (OpenSpec.ofChange schnorrRightWrong)

/-- 'nunciolaw04.SchnorrShift': WHATEVER THE INPUT: true; the input reads as it did. -/
def schnorrShiftSpec : ChangeSpec := { name := "schnorrShift", fn := fun _ => fun
  | [d1, d2] => { results := [.lit (.bool true)], args := [d1, d2] }
  | _ => none }
def schnorrShiftRow : OpenClaim := { program := "ytcnmoallgfdomaadoor", sum := "aa8c62d572f83b62fa77ad1d6f9603598bfa86945a79be271cac9757b4ead5f9", func := "nuncio/nunciolaw04.SchnorrShift", spec := "schnorrShift", unfollowed := true, recurses := true, named := ["math/bits.divideError", "math/bits.overflowError", "nuncio/blake.roots"], apart := false, laid := [("nuncio/blake.roots", laid_nuncio_blake_roots)] }
def SchnorrShiftSaid : Prop := schnorrShiftRow.holds Tryd.pinned (OpenSpec.ofChange schnorrShiftSpec)

/-- ITS FALSE NEIGHBOUR: 'it returns false'. Refute it at one input. -/
def schnorrShiftWrong : ChangeSpec := { name := "schnorrShift", fn := fun _ => fun
  | [d1, d2] => { results := [.lit (.bool false)], args := [d1, d2] }
  | _ => none }
def SchnorrShiftWrongFalsely : Prop := schnorrShiftRow.holds Tryd.pinned (OpenSpec.ofChange schnorrShiftWrong)

/- THE SECOND FORM. 'bulk': how many values and letters a reading holds, each counted each time it is reached (what is shared counts as often as it is met; a slice's spare places count too). A statement '..UptoSaid' is the law's where the arguments, and the package variables that the reading takes, are together of bulk at most 1048576: NARROWER than '..Said'. Prove '..Said' where nothing that the law and all that it calls make is longer than what came in: it says more and counts as full. Else prove '..UptoSaid'. A law counts once. -/
mutual
def uptoBulk {H : Type} : DataW H → Nat
  | .lit (.string bytes) => bytes.length + 1
  | .lit _ => 1
  | .nil => 1
  | .ptr d => uptoBulk d + 1
  | .slice elems spare => uptoBulkAll elems + uptoBulkAll spare + 1
  | .agg parts => uptoBulkAll parts + 1
  | .iface _ d => uptoBulk d + 1
  | .map entries => uptoBulkEntries entries + 1
  | .held _ => 1
def uptoBulkAll {H : Type} : List (DataW H) → Nat
  | [] => 0
  | d :: r => uptoBulk d + uptoBulkAll r
def uptoBulkEntries {H : Type} : List (Lit × DataW H) → Nat
  | [] => 0
  | x :: r => uptoBulkEntry x + uptoBulkEntries r
def uptoBulkEntry {H : Type} : Lit × DataW H → Nat
  | (.string bytes, d) => bytes.length + uptoBulk d + 1
  | (_, d) => uptoBulk d + 1
 end
def uptoSmall : (H : Type) → List (DataW H) → Bool := fun _ ds => decide (uptoBulkAll ds ≤ 1048576)
def OpenSpec.upto (s : _root_.Go.ChangeSpec) : _root_.Go.OpenSpec := { _root_.Go.OpenSpec.ofChange s with cond := some uptoSmall }

/-- 'nunciolaw04.SchnorrVerifies', WHERE WHAT IT READS IS OF BULK AT MOST 1048576: true; the input reads as it did. -/
def schnorrVerifiesUptoRow : OpenClaim := { program := "ytcnmoallgfdomaadoor", sum := "aa8c62d572f83b62fa77ad1d6f9603598bfa86945a79be271cac9757b4ead5f9", func := "nuncio/nunciolaw04.SchnorrVerifies", spec := "schnorrVerifies", unfollowed := true, recurses := true, named := ["math/bits.divideError", "math/bits.overflowError", "nuncio/blake.roots"], apart := false, laid := [("nuncio/blake.roots", laid_nuncio_blake_roots)], narrowed := true }
def SchnorrVerifiesUptoSaid : Prop := schnorrVerifiesUptoRow.holds Tryd.pinned (OpenSpec.upto schnorrVerifiesSpec)

/-- 'nunciolaw04.SchnorrSigns', WHERE WHAT IT READS IS OF BULK AT MOST 1048576: true; the input reads as it did. -/
def schnorrSignsUptoRow : OpenClaim := { program := "ytcnmoallgfdomaadoor", sum := "aa8c62d572f83b62fa77ad1d6f9603598bfa86945a79be271cac9757b4ead5f9", func := "nuncio/nunciolaw04.SchnorrSigns", spec := "schnorrSigns", unfollowed := true, recurses := true, named := ["math/bits.divideError", "math/bits.overflowError", "nuncio/blake.roots"], apart := false, laid := [("nuncio/blake.roots", laid_nuncio_blake_roots)], narrowed := true }
def SchnorrSignsUptoSaid : Prop := schnorrSignsUptoRow.holds Tryd.pinned (OpenSpec.upto schnorrSignsSpec)

/-- 'nunciolaw04.SchnorrRight', WHERE WHAT IT READS IS OF BULK AT MOST 1048576: true; the input reads as it did. -/
def schnorrRightUptoRow : OpenClaim := { program := "ytcnmoallgfdomaadoor", sum := "aa8c62d572f83b62fa77ad1d6f9603598bfa86945a79be271cac9757b4ead5f9", func := "nuncio/nunciolaw04.SchnorrRight", spec := "schnorrRight", unfollowed := true, recurses := true, named := ["math/bits.divideError", "math/bits.overflowError", "nuncio/blake.roots"], apart := false, laid := [("nuncio/blake.roots", laid_nuncio_blake_roots)], narrowed := true }
def SchnorrRightUptoSaid : Prop := schnorrRightUptoRow.holds Tryd.pinned (OpenSpec.upto schnorrRightSpec)

/-- 'nunciolaw04.SchnorrShift', WHERE WHAT IT READS IS OF BULK AT MOST 1048576: true; the input reads as it did. -/
def schnorrShiftUptoRow : OpenClaim := { program := "ytcnmoallgfdomaadoor", sum := "aa8c62d572f83b62fa77ad1d6f9603598bfa86945a79be271cac9757b4ead5f9", func := "nuncio/nunciolaw04.SchnorrShift", spec := "schnorrShift", unfollowed := true, recurses := true, named := ["math/bits.divideError", "math/bits.overflowError", "nuncio/blake.roots"], apart := false, laid := [("nuncio/blake.roots", laid_nuncio_blake_roots)], narrowed := true }
def SchnorrShiftUptoSaid : Prop := schnorrShiftUptoRow.holds Tryd.pinned (OpenSpec.upto schnorrShiftSpec)

end Rows
end Go.Proofs.YtcnmoallgfdomaaDoor
