/-
  NARROWER THAN 'FOR EVERY INPUT', by the rows' own cells (each row's printed sentence says how): MerkleOther: laid · MerkleChecks: laid · MerkleRoots: laid · MerkleSmall: laid · MerkleTells: laid · MerkleBent: laid.
  DERIVED. THE GIVEN ROWS OF THIS SEAT. 6 by the template 'for every input the law returns true; each argument reads behind the call as it read before'; 0 by the template 'total and deterministic' (their statements: YtdeikpifflkabaaDoorTotals.lean).
  GIVEN WITH THE SEED: the statements are not yours to turn. If you find one false, say at which input.
  Laid BY PROGRAM, IN A SANDBOX (cutbox-rows.mjs): the forced cells as the released guide's own fill.sh prints them over the translation 3a8db2d5a8356d15… (all of the seat's roots in one cut). By AI agents, Wed Nov 11 2026. No macro, syntax, notation, axiom, sorry.
-/
import Derived.Test.YtdeikpifflkabaaDoorChecked
import GoSem.Claim
import GoSem.ClaimJoined
import GoSem.ClaimMapViews
import Derived.JoinedTies
import Derived.KernelRfl
namespace Go.Proofs.YtdeikpifflkabaaDoor
/- THE CELL 'sum', in the pinned program and in every row, IS THE sha256 OF THE DUMP (.gsa) THAT YtdeikpifflkabaaDoorProg.lean LOADS. Nothing in Lean hashes anything: it is a label: what it is worth is what the hold of that sum in a sandbox is worth. -/
noncomputable def Tryd.pinned : Pinned := { name := "ytdeikpifflkabaadoor", sum := "3a8db2d5a8356d158d5a64b5e8ec149a01d3013216db7d1985fc9381fb85a4ed", checked := Tryd.checked }
namespace Rows
def none {H : Type} : Left H := { results := [], args := [] }

/- WHAT THE LISTED PACKAGE-LEVEL VARIABLES READ AS WHEN THE CALL BEGINS. Each datum BY PROGRAM (the guide's laid-datum.mjs) off the statement by which the dump's own 'gosem.cut.vars' lays the variable. In a bare row this is a premise. The card (YtdeikpifflkabaaDoorCards.lean) ties it to the program's text. -/
def laid_nuncio_blake_roots {H : Type} : DataW H := .agg [.lit (.int .u32 1779033703), .lit (.int .u32 3144134277), .lit (.int .u32 1013904242), .lit (.int .u32 2773480762), .lit (.int .u32 1359893119), .lit (.int .u32 2600822924), .lit (.int .u32 528734635), .lit (.int .u32 1541459225)]

/-- 'nunciolaw05.MerkleOther': WHATEVER THE INPUT: true; the input reads as it did. -/
def merkleOtherSpec : ChangeSpec := { name := "merkleOther", fn := fun _ => fun
  | [d1, d2] => { results := [.lit (.bool true)], args := [d1, d2] }
  | _ => none }
def merkleOtherRow : OpenClaim := { program := "ytdeikpifflkabaadoor", sum := "3a8db2d5a8356d158d5a64b5e8ec149a01d3013216db7d1985fc9381fb85a4ed", func := "nuncio/nunciolaw05.MerkleOther", spec := "merkleOther", unfollowed := true, recurses := true, named := ["nuncio/blake.roots"], apart := false, laid := [("nuncio/blake.roots", laid_nuncio_blake_roots)] }
def MerkleOtherSaid : Prop := merkleOtherRow.holds Tryd.pinned (OpenSpec.ofChange merkleOtherSpec)

/-- ITS FALSE NEIGHBOUR: 'it returns false'. Refute it at one input. -/
def merkleOtherWrong : ChangeSpec := { name := "merkleOther", fn := fun _ => fun
  | [d1, d2] => { results := [.lit (.bool false)], args := [d1, d2] }
  | _ => none }
def MerkleOtherWrongFalsely : Prop := merkleOtherRow.holds Tryd.pinned (OpenSpec.ofChange merkleOtherWrong)

/-- 'nunciolaw05.MerkleChecks': WHATEVER THE INPUT: true; the input reads as it did. -/
def merkleChecksSpec : ChangeSpec := { name := "merkleChecks", fn := fun _ => fun
  | [d1, d2, d3] => { results := [.lit (.bool true)], args := [d1, d2, d3] }
  | _ => none }
def merkleChecksRow : OpenClaim := { program := "ytdeikpifflkabaadoor", sum := "3a8db2d5a8356d158d5a64b5e8ec149a01d3013216db7d1985fc9381fb85a4ed", func := "nuncio/nunciolaw05.MerkleChecks", spec := "merkleChecks", unfollowed := true, recurses := true, named := ["nuncio/blake.roots"], apart := false, laid := [("nuncio/blake.roots", laid_nuncio_blake_roots)] }
def MerkleChecksSaid : Prop := merkleChecksRow.holds Tryd.pinned (OpenSpec.ofChange merkleChecksSpec)

/-- ITS FALSE NEIGHBOUR: 'it returns false'. Refute it at one input. -/
def merkleChecksWrong : ChangeSpec := { name := "merkleChecks", fn := fun _ => fun
  | [d1, d2, d3] => { results := [.lit (.bool false)], args := [d1, d2, d3] }
  | _ => none }
def MerkleChecksWrongFalsely : Prop := merkleChecksRow.holds Tryd.pinned (OpenSpec.ofChange merkleChecksWrong)

/-- 'nunciolaw05.MerkleRoots': WHATEVER THE INPUT: true; the input reads as it did. -/
def merkleRootsSpec : ChangeSpec := { name := "merkleRoots", fn := fun _ => fun
  | [d1, d2] => { results := [.lit (.bool true)], args := [d1, d2] }
  | _ => none }
def merkleRootsRow : OpenClaim := { program := "ytdeikpifflkabaadoor", sum := "3a8db2d5a8356d158d5a64b5e8ec149a01d3013216db7d1985fc9381fb85a4ed", func := "nuncio/nunciolaw05.MerkleRoots", spec := "merkleRoots", unfollowed := true, recurses := true, named := ["nuncio/blake.roots"], apart := false, laid := [("nuncio/blake.roots", laid_nuncio_blake_roots)] }
def MerkleRootsSaid : Prop := merkleRootsRow.holds Tryd.pinned (OpenSpec.ofChange merkleRootsSpec)

/-- ITS FALSE NEIGHBOUR: 'it returns false'. Refute it at one input. -/
def merkleRootsWrong : ChangeSpec := { name := "merkleRoots", fn := fun _ => fun
  | [d1, d2] => { results := [.lit (.bool false)], args := [d1, d2] }
  | _ => none }
def MerkleRootsWrongFalsely : Prop := merkleRootsRow.holds Tryd.pinned (OpenSpec.ofChange merkleRootsWrong)

/-- 'nunciolaw05.MerkleSmall': WHATEVER THE INPUT: true; the input reads as it did. -/
def merkleSmallSpec : ChangeSpec := { name := "merkleSmall", fn := fun _ => fun
  | [d1, d2] => { results := [.lit (.bool true)], args := [d1, d2] }
  | _ => none }
def merkleSmallRow : OpenClaim := { program := "ytdeikpifflkabaadoor", sum := "3a8db2d5a8356d158d5a64b5e8ec149a01d3013216db7d1985fc9381fb85a4ed", func := "nuncio/nunciolaw05.MerkleSmall", spec := "merkleSmall", unfollowed := true, recurses := true, named := ["nuncio/blake.roots"], apart := false, laid := [("nuncio/blake.roots", laid_nuncio_blake_roots)] }
def MerkleSmallSaid : Prop := merkleSmallRow.holds Tryd.pinned (OpenSpec.ofChange merkleSmallSpec)

/-- ITS FALSE NEIGHBOUR: 'it returns false'. Refute it at one input. -/
def merkleSmallWrong : ChangeSpec := { name := "merkleSmall", fn := fun _ => fun
  | [d1, d2] => { results := [.lit (.bool false)], args := [d1, d2] }
  | _ => none }
def MerkleSmallWrongFalsely : Prop := merkleSmallRow.holds Tryd.pinned (OpenSpec.ofChange merkleSmallWrong)

/-- 'nunciolaw05.MerkleTells': WHATEVER THE INPUT: true; the input reads as it did. -/
def merkleTellsSpec : ChangeSpec := { name := "merkleTells", fn := fun _ => fun
  | [d1, d2] => { results := [.lit (.bool true)], args := [d1, d2] }
  | _ => none }
def merkleTellsRow : OpenClaim := { program := "ytdeikpifflkabaadoor", sum := "3a8db2d5a8356d158d5a64b5e8ec149a01d3013216db7d1985fc9381fb85a4ed", func := "nuncio/nunciolaw05.MerkleTells", spec := "merkleTells", unfollowed := true, recurses := true, named := ["nuncio/blake.roots"], apart := false, laid := [("nuncio/blake.roots", laid_nuncio_blake_roots)] }
def MerkleTellsSaid : Prop := merkleTellsRow.holds Tryd.pinned (OpenSpec.ofChange merkleTellsSpec)

/-- ITS FALSE NEIGHBOUR: 'it returns false'. Refute it at one input. -/
def merkleTellsWrong : ChangeSpec := { name := "merkleTells", fn := fun _ => fun
  | [d1, d2] => { results := [.lit (.bool false)], args := [d1, d2] }
  | _ => none }
def MerkleTellsWrongFalsely : Prop := merkleTellsRow.holds Tryd.pinned (OpenSpec.ofChange merkleTellsWrong)

/-- 'nunciolaw05.MerkleBent': WHATEVER THE INPUT: true; the input reads as it did. -/
def merkleBentSpec : ChangeSpec := { name := "merkleBent", fn := fun _ => fun
  | [d1, d2, d3] => { results := [.lit (.bool true)], args := [d1, d2, d3] }
  | _ => none }
def merkleBentRow : OpenClaim := { program := "ytdeikpifflkabaadoor", sum := "3a8db2d5a8356d158d5a64b5e8ec149a01d3013216db7d1985fc9381fb85a4ed", func := "nuncio/nunciolaw05.MerkleBent", spec := "merkleBent", unfollowed := true, recurses := true, named := ["nuncio/blake.roots"], apart := false, laid := [("nuncio/blake.roots", laid_nuncio_blake_roots)] }
def MerkleBentSaid : Prop := merkleBentRow.holds Tryd.pinned (OpenSpec.ofChange merkleBentSpec)

/-- ITS FALSE NEIGHBOUR: 'it returns false'. Refute it at one input. -/
def merkleBentWrong : ChangeSpec := { name := "merkleBent", fn := fun _ => fun
  | [d1, d2, d3] => { results := [.lit (.bool false)], args := [d1, d2, d3] }
  | _ => none }
def MerkleBentWrongFalsely : Prop := merkleBentRow.holds Tryd.pinned (OpenSpec.ofChange merkleBentWrong)

/- THE SECOND FORM. 'bulk': how many values and letters a reading holds, each counted each time it is reached (what is shared counts as often as it is met; a slice's spare places count too). A statement '..UptoSaid' is the law's where the arguments, and the package variables that the reading takes, are together of bulk at most 1048576: NARROWER than '..Said'. Prove '..Said' where nothing that the law and all that it calls make is longer than what came in: it says more and counts as full. Else prove '..UptoSaid'. A law counts once. -/
mutual
def uptoBulk {H : Type} : DataW H → Nat
  | .lit (.string bytes) => bytes.length + 1
  | .lit _ => 1
  | .nil => 1
  | .ptr d => uptoBulk d + 1
  | .slice elems spare => uptoBulkAll elems + uptoBulkAll spare + 1
  | .agg parts => uptoBulkAll parts + 1
  | .iface _ d => uptoBulk d + 1
  | .map entries => uptoBulkEntries entries + 1
  | .held _ => 1
def uptoBulkAll {H : Type} : List (DataW H) → Nat
  | [] => 0
  | d :: r => uptoBulk d + uptoBulkAll r
def uptoBulkEntries {H : Type} : List (Lit × DataW H) → Nat
  | [] => 0
  | x :: r => uptoBulkEntry x + uptoBulkEntries r
def uptoBulkEntry {H : Type} : Lit × DataW H → Nat
  | (.string bytes, d) => bytes.length + uptoBulk d + 1
  | (_, d) => uptoBulk d + 1
 end
def uptoSmall : (H : Type) → List (DataW H) → Bool := fun _ ds => decide (uptoBulkAll ds ≤ 1048576)
def OpenSpec.upto (s : _root_.Go.ChangeSpec) : _root_.Go.OpenSpec := { _root_.Go.OpenSpec.ofChange s with cond := some uptoSmall }

/-- 'nunciolaw05.MerkleOther', WHERE WHAT IT READS IS OF BULK AT MOST 1048576: true; the input reads as it did. -/
def merkleOtherUptoRow : OpenClaim := { program := "ytdeikpifflkabaadoor", sum := "3a8db2d5a8356d158d5a64b5e8ec149a01d3013216db7d1985fc9381fb85a4ed", func := "nuncio/nunciolaw05.MerkleOther", spec := "merkleOther", unfollowed := true, recurses := true, named := ["nuncio/blake.roots"], apart := false, laid := [("nuncio/blake.roots", laid_nuncio_blake_roots)], narrowed := true }
def MerkleOtherUptoSaid : Prop := merkleOtherUptoRow.holds Tryd.pinned (OpenSpec.upto merkleOtherSpec)

/-- 'nunciolaw05.MerkleChecks', WHERE WHAT IT READS IS OF BULK AT MOST 1048576: true; the input reads as it did. -/
def merkleChecksUptoRow : OpenClaim := { program := "ytdeikpifflkabaadoor", sum := "3a8db2d5a8356d158d5a64b5e8ec149a01d3013216db7d1985fc9381fb85a4ed", func := "nuncio/nunciolaw05.MerkleChecks", spec := "merkleChecks", unfollowed := true, recurses := true, named := ["nuncio/blake.roots"], apart := false, laid := [("nuncio/blake.roots", laid_nuncio_blake_roots)], narrowed := true }
def MerkleChecksUptoSaid : Prop := merkleChecksUptoRow.holds Tryd.pinned (OpenSpec.upto merkleChecksSpec)

/-- 'nunciolaw05.MerkleRoots', WHERE WHAT IT READS IS OF BULK AT MOST 1048576: true; the input reads as it did. -/
def merkleRootsUptoRow : OpenClaim := { program := "ytdeikpifflkabaadoor", sum := "3a8db2d5a8356d158d5a64b5e8ec149a01d3013216db7d1985fc9381fb85a4ed", func := "nuncio/nunciolaw05.MerkleRoots", spec := "merkleRoots", unfollowed := true, recurses := true, named := ["nuncio/blake.roots"], apart := false, laid := [("nuncio/blake.roots", laid_nuncio_blake_roots)], narrowed := true }
def MerkleRootsUptoSaid : Prop := merkleRootsUptoRow.holds Tryd.pinned (OpenSpec.upto merkleRootsSpec)

/-- 'nunciolaw05.MerkleSmall', WHERE WHAT IT READS IS OF BULK AT MOST 1048576: true; the input reads as it did. -/
def merkleSmallUptoRow : OpenClaim := { program := "ytdeikpifflkabaadoor", sum := "3a8db2d5a8356d158d5a64b5e8ec149a01d3013216db7d1985fc9381fb85a4ed", func := "nuncio/nunciolaw05.MerkleSmall", spec := "merkleSmall", unfollowed := true, recurses := true, named := ["nuncio/blake.roots"], apart := false, laid := [("nuncio/blake.roots", laid_nuncio_blake_roots)], narrowed := true }
def MerkleSmallUptoSaid : Prop := merkleSmallUptoRow.holds Tryd.pinned (OpenSpec.upto merkleSmallSpec)

/-- 'nunciolaw05.MerkleTells', WHERE WHAT IT READS IS OF BULK AT MOST 1048576: true; the input reads as it did. -/
def merkleTellsUptoRow : OpenClaim := { program := "ytdeikpifflkabaadoor", sum := "3a8db2d5a8356d158d5a64b5e8ec149a01d3013216db7d1985fc9381fb85a4ed", func := "nuncio/nunciolaw05.MerkleTells", spec := "merkleTells", unfollowed := true, recurses := true, named := ["nuncio/blake.roots"], apart := false, laid := [("nuncio/blake.roots", laid_nuncio_blake_roots)], narrowed := true }
def MerkleTellsUptoSaid : Prop := merkleTellsUptoRow.holds Tryd.pinned (OpenSpec.upto merkleTellsSpec)

/-- 'nunciolaw05.MerkleBent', WHERE WHAT IT READS IS OF BULK AT MOST 1048576: true; the input reads as it did. -/
def merkleBentUptoRow : OpenClaim := { program := "ytdeikpifflkabaadoor", sum := "3a8db2d5a8356d158d5a64b5e8ec149a01d3013216db7d1985fc9381fb85a4ed", func := "nuncio/nunciolaw05.MerkleBent", spec := "merkleBent", unfollowed := true, recurses := true, named := ["nuncio/blake.roots"], apart := false, laid := [("nuncio/blake.roots", laid_nuncio_blake_roots)], narrowed := true }
def MerkleBentUptoSaid : Prop := merkleBentUptoRow.holds Tryd.pinned (OpenSpec.upto merkleBentSpec)

end Rows
end Go.Proofs.YtdeikpifflkabaaDoor
