/-
  No cell of these rows narrows 'for every input' (looked for: loops, veiled, ifaces, maps, wideKeys, modest, calm, conditions, laid).
  DERIVED. THE GIVEN ROWS OF THIS SEAT. 8 by the template 'for every input the law returns true; each argument reads behind the call as it read before'; 0 by the template 'total and deterministic' (their statements: YtpbdlmkcomnjbaaTotals.lean).
  GIVEN WITH THE SEED: the statements are not yours to turn. If you find one false, say at which input.
  Laid BY PROGRAM, IN A SANDBOX (cutbox-rows.mjs): the forced cells as the released guide's own fill.sh prints them over the translation 48bb77f0b4c16a2a… (all of the seat's roots in one cut). By AI agents, Wed Nov 11 2026. No macro, syntax, notation, axiom, sorry.
-/
import Derived.Test.YtpbdlmkcomnjbaaChecked
import GoSem.Claim
import GoSem.ClaimJoined
import GoSem.ClaimMapViews
import Derived.JoinedTies
import Derived.KernelRfl
namespace Go.Proofs.Ytpbdlmkcomnjbaa
/- THE CELL 'sum', in the pinned program and in every row, IS THE sha256 OF THE DUMP (.gsa) THAT YtpbdlmkcomnjbaaProg.lean LOADS. Nothing in Lean hashes anything: it is a label: what it is worth is what the hold of that sum in a sandbox is worth. -/
noncomputable def Try.pinned : Pinned := { name := "ytpbdlmkcomnjbaa", sum := "48bb77f0b4c16a2a77fe70c0044ed60536236ffd790ac79217f90ab5b2b82c19", checked := Try.checked }
namespace Rows
def none {H : Type} : Left H := { results := [], args := [] }

/-- 'nunciolaw01.LevelShares': WHATEVER THE INPUT: true; the input reads as it did. -/
def levelSharesSpec : ChangeSpec := { name := "levelShares", fn := fun _ => fun
  | [d1, d2, d3] => { results := [.lit (.bool true)], args := [d1, d2, d3] }
  | _ => none }
def levelSharesRow : OpenClaim := { program := "ytpbdlmkcomnjbaa", sum := "48bb77f0b4c16a2a77fe70c0044ed60536236ffd790ac79217f90ab5b2b82c19", func := "nuncio/nunciolaw01.LevelShares", spec := "levelShares", inPlace := ["math.Float64bits", "math.Float64frombits"], apart := false }
def LevelSharesSaid : Prop := levelSharesRow.holds Try.pinned (OpenSpec.ofChange levelSharesSpec)

/-- ITS FALSE NEIGHBOUR: 'it returns false'. Refute it at one input. -/
def levelSharesWrong : ChangeSpec := { name := "levelShares", fn := fun _ => fun
  | [d1, d2, d3] => { results := [.lit (.bool false)], args := [d1, d2, d3] }
  | _ => none }
def LevelSharesWrongFalsely : Prop := levelSharesRow.holds Try.pinned (OpenSpec.ofChange levelSharesWrong)

/-- 'nunciolaw01.LevelLine': WHATEVER THE INPUT: true; the input reads as it did. -/
def levelLineSpec : ChangeSpec := { name := "levelLine", fn := fun _ => fun
  | [d1, d2, d3] => { results := [.lit (.bool true)], args := [d1, d2, d3] }
  | _ => none }
def levelLineRow : OpenClaim := { program := "ytpbdlmkcomnjbaa", sum := "48bb77f0b4c16a2a77fe70c0044ed60536236ffd790ac79217f90ab5b2b82c19", func := "nuncio/nunciolaw01.LevelLine", spec := "levelLine", inPlace := ["math.Float64bits", "math.Float64frombits"], apart := false }
def LevelLineSaid : Prop := levelLineRow.holds Try.pinned (OpenSpec.ofChange levelLineSpec)

/-- ITS FALSE NEIGHBOUR: 'it returns false'. Refute it at one input. -/
def levelLineWrong : ChangeSpec := { name := "levelLine", fn := fun _ => fun
  | [d1, d2, d3] => { results := [.lit (.bool false)], args := [d1, d2, d3] }
  | _ => none }
def LevelLineWrongFalsely : Prop := levelLineRow.holds Try.pinned (OpenSpec.ofChange levelLineWrong)

/-- 'nunciolaw01.LevelMore': WHATEVER THE INPUT: true; the input reads as it did. -/
def levelMoreSpec : ChangeSpec := { name := "levelMore", fn := fun _ => fun
  | [d1, d2, d3] => { results := [.lit (.bool true)], args := [d1, d2, d3] }
  | _ => none }
def levelMoreRow : OpenClaim := { program := "ytpbdlmkcomnjbaa", sum := "48bb77f0b4c16a2a77fe70c0044ed60536236ffd790ac79217f90ab5b2b82c19", func := "nuncio/nunciolaw01.LevelMore", spec := "levelMore", inPlace := ["math.Float64bits", "math.Float64frombits"], apart := false }
def LevelMoreSaid : Prop := levelMoreRow.holds Try.pinned (OpenSpec.ofChange levelMoreSpec)

/-- ITS FALSE NEIGHBOUR: 'it returns false'. Refute it at one input. -/
def levelMoreWrong : ChangeSpec := { name := "levelMore", fn := fun _ => fun
  | [d1, d2, d3] => { results := [.lit (.bool false)], args := [d1, d2, d3] }
  | _ => none }
def LevelMoreWrongFalsely : Prop := levelMoreRow.holds Try.pinned (OpenSpec.ofChange levelMoreWrong)

/-- 'nunciolaw01.LevelHalves': WHATEVER THE INPUT: true; the input reads as it did. -/
def levelHalvesSpec : ChangeSpec := { name := "levelHalves", fn := fun _ => fun
  | [d1, d2, d3] => { results := [.lit (.bool true)], args := [d1, d2, d3] }
  | _ => none }
def levelHalvesRow : OpenClaim := { program := "ytpbdlmkcomnjbaa", sum := "48bb77f0b4c16a2a77fe70c0044ed60536236ffd790ac79217f90ab5b2b82c19", func := "nuncio/nunciolaw01.LevelHalves", spec := "levelHalves", inPlace := ["math.Float64bits", "math.Float64frombits"], apart := false }
def LevelHalvesSaid : Prop := levelHalvesRow.holds Try.pinned (OpenSpec.ofChange levelHalvesSpec)

/-- ITS FALSE NEIGHBOUR: 'it returns false'. Refute it at one input. -/
def levelHalvesWrong : ChangeSpec := { name := "levelHalves", fn := fun _ => fun
  | [d1, d2, d3] => { results := [.lit (.bool false)], args := [d1, d2, d3] }
  | _ => none }
def LevelHalvesWrongFalsely : Prop := levelHalvesRow.holds Try.pinned (OpenSpec.ofChange levelHalvesWrong)

/-- 'nunciolaw01.LevelBits': WHATEVER THE INPUT: true; the input reads as it did. -/
def levelBitsSpec : ChangeSpec := { name := "levelBits", fn := fun _ => fun
  | [d1, d2] => { results := [.lit (.bool true)], args := [d1, d2] }
  | _ => none }
def levelBitsRow : OpenClaim := { program := "ytpbdlmkcomnjbaa", sum := "48bb77f0b4c16a2a77fe70c0044ed60536236ffd790ac79217f90ab5b2b82c19", func := "nuncio/nunciolaw01.LevelBits", spec := "levelBits", inPlace := ["math.Float64frombits", "math.Float64bits"], apart := false }
def LevelBitsSaid : Prop := levelBitsRow.holds Try.pinned (OpenSpec.ofChange levelBitsSpec)

/-- ITS FALSE NEIGHBOUR: 'it returns false'. Refute it at one input. -/
def levelBitsWrong : ChangeSpec := { name := "levelBits", fn := fun _ => fun
  | [d1, d2] => { results := [.lit (.bool false)], args := [d1, d2] }
  | _ => none }
def LevelBitsWrongFalsely : Prop := levelBitsRow.holds Try.pinned (OpenSpec.ofChange levelBitsWrong)

/-- 'nunciolaw01.LevelBack': WHATEVER THE INPUT: true; the input reads as it did. -/
def levelBackSpec : ChangeSpec := { name := "levelBack", fn := fun _ => fun
  | [d1, d2] => { results := [.lit (.bool true)], args := [d1, d2] }
  | _ => none }
def levelBackRow : OpenClaim := { program := "ytpbdlmkcomnjbaa", sum := "48bb77f0b4c16a2a77fe70c0044ed60536236ffd790ac79217f90ab5b2b82c19", func := "nuncio/nunciolaw01.LevelBack", spec := "levelBack", inPlace := ["math.Float64bits", "math.Float64frombits"], apart := false }
def LevelBackSaid : Prop := levelBackRow.holds Try.pinned (OpenSpec.ofChange levelBackSpec)

/-- ITS FALSE NEIGHBOUR: 'it returns false'. Refute it at one input. -/
def levelBackWrong : ChangeSpec := { name := "levelBack", fn := fun _ => fun
  | [d1, d2] => { results := [.lit (.bool false)], args := [d1, d2] }
  | _ => none }
def LevelBackWrongFalsely : Prop := levelBackRow.holds Try.pinned (OpenSpec.ofChange levelBackWrong)

/-- 'nunciolaw01.LevelOrder': WHATEVER THE INPUT: true; the input reads as it did. -/
def levelOrderSpec : ChangeSpec := { name := "levelOrder", fn := fun _ => fun
  | [d1, d2, d3] => { results := [.lit (.bool true)], args := [d1, d2, d3] }
  | _ => none }
def levelOrderRow : OpenClaim := { program := "ytpbdlmkcomnjbaa", sum := "48bb77f0b4c16a2a77fe70c0044ed60536236ffd790ac79217f90ab5b2b82c19", func := "nuncio/nunciolaw01.LevelOrder", spec := "levelOrder", inPlace := ["math.Float64bits", "math.Float64frombits", "math.archFloor", "math.archTrunc"], apart := false }
def LevelOrderSaid : Prop := levelOrderRow.holds Try.pinned (OpenSpec.ofChange levelOrderSpec)

/-- ITS FALSE NEIGHBOUR: 'it returns false'. Refute it at one input. -/
def levelOrderWrong : ChangeSpec := { name := "levelOrder", fn := fun _ => fun
  | [d1, d2, d3] => { results := [.lit (.bool false)], args := [d1, d2, d3] }
  | _ => none }
def LevelOrderWrongFalsely : Prop := levelOrderRow.holds Try.pinned (OpenSpec.ofChange levelOrderWrong)

/-- 'nunciolaw01.LevelAbove': WHATEVER THE INPUT: true; the input reads as it did. -/
def levelAboveSpec : ChangeSpec := { name := "levelAbove", fn := fun _ => fun
  | [d1, d2, d3] => { results := [.lit (.bool true)], args := [d1, d2, d3] }
  | _ => none }
def levelAboveRow : OpenClaim := { program := "ytpbdlmkcomnjbaa", sum := "48bb77f0b4c16a2a77fe70c0044ed60536236ffd790ac79217f90ab5b2b82c19", func := "nuncio/nunciolaw01.LevelAbove", spec := "levelAbove", inPlace := ["math.archFloor", "math.Float64bits", "math.Float64frombits", "math.archTrunc"], apart := false }
def LevelAboveSaid : Prop := levelAboveRow.holds Try.pinned (OpenSpec.ofChange levelAboveSpec)

/-- ITS FALSE NEIGHBOUR: 'it returns false'. Refute it at one input. -/
def levelAboveWrong : ChangeSpec := { name := "levelAbove", fn := fun _ => fun
  | [d1, d2, d3] => { results := [.lit (.bool false)], args := [d1, d2, d3] }
  | _ => none }
def LevelAboveWrongFalsely : Prop := levelAboveRow.holds Try.pinned (OpenSpec.ofChange levelAboveWrong)

/- THE SECOND FORM. 'bulk': how many values and letters a reading holds, each counted each time it is reached (what is shared counts as often as it is met; a slice's spare places count too). A statement '..UptoSaid' is the law's where the arguments, and the package variables that the reading takes, are together of bulk at most 1048576: NARROWER than '..Said'. Prove '..Said' where nothing that the law and all that it calls make is longer than what came in: it says more and counts as full. Else prove '..UptoSaid'. A law counts once. -/
mutual
def uptoBulk {H : Type} : DataW H → Nat
  | .lit (.string bytes) => bytes.length + 1
  | .lit _ => 1
  | .nil => 1
  | .ptr d => uptoBulk d + 1
  | .slice elems spare => uptoBulkAll elems + uptoBulkAll spare + 1
  | .agg parts => uptoBulkAll parts + 1
  | .iface _ d => uptoBulk d + 1
  | .map entries => uptoBulkEntries entries + 1
  | .held _ => 1
def uptoBulkAll {H : Type} : List (DataW H) → Nat
  | [] => 0
  | d :: r => uptoBulk d + uptoBulkAll r
def uptoBulkEntries {H : Type} : List (Lit × DataW H) → Nat
  | [] => 0
  | x :: r => uptoBulkEntry x + uptoBulkEntries r
def uptoBulkEntry {H : Type} : Lit × DataW H → Nat
  | (.string bytes, d) => bytes.length + uptoBulk d + 1
  | (_, d) => uptoBulk d + 1
 end
def uptoSmall : (H : Type) → List (DataW H) → Bool := fun _ ds => decide (uptoBulkAll ds ≤ 1048576)
def OpenSpec.upto (s : _root_.Go.ChangeSpec) : _root_.Go.OpenSpec := { _root_.Go.OpenSpec.ofChange s with cond := some uptoSmall }

/-- 'nunciolaw01.LevelShares', WHERE WHAT IT READS IS OF BULK AT MOST 1048576: true; the input reads as it did. -/
def levelSharesUptoRow : OpenClaim := { program := "ytpbdlmkcomnjbaa", sum := "48bb77f0b4c16a2a77fe70c0044ed60536236ffd790ac79217f90ab5b2b82c19", func := "nuncio/nunciolaw01.LevelShares", spec := "levelShares", inPlace := ["math.Float64bits", "math.Float64frombits"], apart := false, narrowed := true }
def LevelSharesUptoSaid : Prop := levelSharesUptoRow.holds Try.pinned (OpenSpec.upto levelSharesSpec)

/-- 'nunciolaw01.LevelLine', WHERE WHAT IT READS IS OF BULK AT MOST 1048576: true; the input reads as it did. -/
def levelLineUptoRow : OpenClaim := { program := "ytpbdlmkcomnjbaa", sum := "48bb77f0b4c16a2a77fe70c0044ed60536236ffd790ac79217f90ab5b2b82c19", func := "nuncio/nunciolaw01.LevelLine", spec := "levelLine", inPlace := ["math.Float64bits", "math.Float64frombits"], apart := false, narrowed := true }
def LevelLineUptoSaid : Prop := levelLineUptoRow.holds Try.pinned (OpenSpec.upto levelLineSpec)

/-- 'nunciolaw01.LevelMore', WHERE WHAT IT READS IS OF BULK AT MOST 1048576: true; the input reads as it did. -/
def levelMoreUptoRow : OpenClaim := { program := "ytpbdlmkcomnjbaa", sum := "48bb77f0b4c16a2a77fe70c0044ed60536236ffd790ac79217f90ab5b2b82c19", func := "nuncio/nunciolaw01.LevelMore", spec := "levelMore", inPlace := ["math.Float64bits", "math.Float64frombits"], apart := false, narrowed := true }
def LevelMoreUptoSaid : Prop := levelMoreUptoRow.holds Try.pinned (OpenSpec.upto levelMoreSpec)

/-- 'nunciolaw01.LevelHalves', WHERE WHAT IT READS IS OF BULK AT MOST 1048576: true; the input reads as it did. -/
def levelHalvesUptoRow : OpenClaim := { program := "ytpbdlmkcomnjbaa", sum := "48bb77f0b4c16a2a77fe70c0044ed60536236ffd790ac79217f90ab5b2b82c19", func := "nuncio/nunciolaw01.LevelHalves", spec := "levelHalves", inPlace := ["math.Float64bits", "math.Float64frombits"], apart := false, narrowed := true }
def LevelHalvesUptoSaid : Prop := levelHalvesUptoRow.holds Try.pinned (OpenSpec.upto levelHalvesSpec)

/-- 'nunciolaw01.LevelBits', WHERE WHAT IT READS IS OF BULK AT MOST 1048576: true; the input reads as it did. -/
def levelBitsUptoRow : OpenClaim := { program := "ytpbdlmkcomnjbaa", sum := "48bb77f0b4c16a2a77fe70c0044ed60536236ffd790ac79217f90ab5b2b82c19", func := "nuncio/nunciolaw01.LevelBits", spec := "levelBits", inPlace := ["math.Float64frombits", "math.Float64bits"], apart := false, narrowed := true }
def LevelBitsUptoSaid : Prop := levelBitsUptoRow.holds Try.pinned (OpenSpec.upto levelBitsSpec)

/-- 'nunciolaw01.LevelBack', WHERE WHAT IT READS IS OF BULK AT MOST 1048576: true; the input reads as it did. -/
def levelBackUptoRow : OpenClaim := { program := "ytpbdlmkcomnjbaa", sum := "48bb77f0b4c16a2a77fe70c0044ed60536236ffd790ac79217f90ab5b2b82c19", func := "nuncio/nunciolaw01.LevelBack", spec := "levelBack", inPlace := ["math.Float64bits", "math.Float64frombits"], apart := false, narrowed := true }
def LevelBackUptoSaid : Prop := levelBackUptoRow.holds Try.pinned (OpenSpec.upto levelBackSpec)

/-- 'nunciolaw01.LevelOrder', WHERE WHAT IT READS IS OF BULK AT MOST 1048576: true; the input reads as it did. -/
def levelOrderUptoRow : OpenClaim := { program := "ytpbdlmkcomnjbaa", sum := "48bb77f0b4c16a2a77fe70c0044ed60536236ffd790ac79217f90ab5b2b82c19", func := "nuncio/nunciolaw01.LevelOrder", spec := "levelOrder", inPlace := ["math.Float64bits", "math.Float64frombits", "math.archFloor", "math.archTrunc"], apart := false, narrowed := true }
def LevelOrderUptoSaid : Prop := levelOrderUptoRow.holds Try.pinned (OpenSpec.upto levelOrderSpec)

/-- 'nunciolaw01.LevelAbove', WHERE WHAT IT READS IS OF BULK AT MOST 1048576: true; the input reads as it did. -/
def levelAboveUptoRow : OpenClaim := { program := "ytpbdlmkcomnjbaa", sum := "48bb77f0b4c16a2a77fe70c0044ed60536236ffd790ac79217f90ab5b2b82c19", func := "nuncio/nunciolaw01.LevelAbove", spec := "levelAbove", inPlace := ["math.archFloor", "math.Float64bits", "math.Float64frombits", "math.archTrunc"], apart := false, narrowed := true }
def LevelAboveUptoSaid : Prop := levelAboveUptoRow.holds Try.pinned (OpenSpec.upto levelAboveSpec)

end Rows
end Go.Proofs.Ytpbdlmkcomnjbaa
