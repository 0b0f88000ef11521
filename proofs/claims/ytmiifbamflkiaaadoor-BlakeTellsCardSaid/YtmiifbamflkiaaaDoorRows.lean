/-
  NARROWER THAN 'FOR EVERY INPUT', by the rows' own cells (each row's printed sentence says how): BlakeSums: laid · BlakePieces: laid · BlakeApart: laid · BlakeTells: laid · BlakeTags: laid.
  DERIVED. THE GIVEN ROWS OF THIS SEAT. 5 by the template 'for every input the law returns true; each argument reads behind the call as it read before'; 0 by the template 'total and deterministic' (their statements: YtmiifbamflkiaaaDoorTotals.lean).
  GIVEN WITH THE SEED: the statements are not yours to turn. If you find one false, say at which input.
  Laid BY PROGRAM, IN A SANDBOX (cutbox-rows.mjs): the forced cells as the released guide's own fill.sh prints them over the translation eaf645ce9e2c95d0… (all of the seat's roots in one cut). By AI agents, Wed Nov 11 2026. No macro, syntax, notation, axiom, sorry.
-/
import Derived.Test.YtmiifbamflkiaaaDoorChecked
import GoSem.Claim
import GoSem.ClaimJoined
import GoSem.ClaimMapViews
import Derived.JoinedTies
import Derived.KernelRfl
namespace Go.Proofs.YtmiifbamflkiaaaDoor
/- THE CELL 'sum', in the pinned program and in every row, IS THE sha256 OF THE DUMP (.gsa) THAT YtmiifbamflkiaaaDoorProg.lean LOADS. Nothing in Lean hashes anything: it is a label: what it is worth is what the hold of that sum in a sandbox is worth. -/
noncomputable def Tryd.pinned : Pinned := { name := "ytmiifbamflkiaaadoor", sum := "eaf645ce9e2c95d0f87d09f0ec4adfc4d24d15ca588fa18212fb5a37a291b94e", checked := Tryd.checked }
namespace Rows
def none {H : Type} : Left H := { results := [], args := [] }

/- WHAT THE LISTED PACKAGE-LEVEL VARIABLES READ AS WHEN THE CALL BEGINS. Each datum BY PROGRAM (the guide's laid-datum.mjs) off the statement by which the dump's own 'gosem.cut.vars' lays the variable. In a bare row this is a premise. The card (YtmiifbamflkiaaaDoorCards.lean) ties it to the program's text. -/
def laid_nuncio_blake_roots {H : Type} : DataW H := .agg [.lit (.int .u32 1779033703), .lit (.int .u32 3144134277), .lit (.int .u32 1013904242), .lit (.int .u32 2773480762), .lit (.int .u32 1359893119), .lit (.int .u32 2600822924), .lit (.int .u32 528734635), .lit (.int .u32 1541459225)]

/-- 'nunciolaw03.BlakeSums': WHATEVER THE INPUT: true; the input reads as it did. -/
def blakeSumsSpec : ChangeSpec := { name := "blakeSums", fn := fun _ => fun
  | [d] => { results := [.lit (.bool true)], args := [d] }
  | _ => none }
def blakeSumsRow : OpenClaim := { program := "ytmiifbamflkiaaadoor", sum := "eaf645ce9e2c95d0f87d09f0ec4adfc4d24d15ca588fa18212fb5a37a291b94e", func := "nuncio/nunciolaw03.BlakeSums", spec := "blakeSums", unfollowed := true, recurses := true, named := ["nuncio/blake.roots"], apart := false, laid := [("nuncio/blake.roots", laid_nuncio_blake_roots)] }
def BlakeSumsSaid : Prop := blakeSumsRow.holds Tryd.pinned (OpenSpec.ofChange blakeSumsSpec)

/-- ITS FALSE NEIGHBOUR: 'it returns false'. Refute it at one input. -/
def blakeSumsWrong : ChangeSpec := { name := "blakeSums", fn := fun _ => fun
  | [d] => { results := [.lit (.bool false)], args := [d] }
  | _ => none }
def BlakeSumsWrongFalsely : Prop := blakeSumsRow.holds Tryd.pinned (OpenSpec.ofChange blakeSumsWrong)

/-- 'nunciolaw03.BlakePieces': WHATEVER THE INPUT: true; the input reads as it did. -/
def blakePiecesSpec : ChangeSpec := { name := "blakePieces", fn := fun _ => fun
  | [d] => { results := [.lit (.bool true)], args := [d] }
  | _ => none }
def blakePiecesRow : OpenClaim := { program := "ytmiifbamflkiaaadoor", sum := "eaf645ce9e2c95d0f87d09f0ec4adfc4d24d15ca588fa18212fb5a37a291b94e", func := "nuncio/nunciolaw03.BlakePieces", spec := "blakePieces", unfollowed := true, recurses := true, named := ["nuncio/blake.roots"], apart := false, laid := [("nuncio/blake.roots", laid_nuncio_blake_roots)] }
def BlakePiecesSaid : Prop := blakePiecesRow.holds Tryd.pinned (OpenSpec.ofChange blakePiecesSpec)

/-- ITS FALSE NEIGHBOUR: 'it returns false'. Refute it at one input. -/
def blakePiecesWrong : ChangeSpec := { name := "blakePieces", fn := fun _ => fun
  | [d] => { results := [.lit (.bool false)], args := [d] }
  | _ => none }
def BlakePiecesWrongFalsely : Prop := blakePiecesRow.holds Tryd.pinned (OpenSpec.ofChange blakePiecesWrong)

/-- 'nunciolaw03.BlakeApart': WHATEVER THE INPUT: true; the input reads as it did. -/
def blakeApartSpec : ChangeSpec := { name := "blakeApart", fn := fun _ => fun
  | [d1, d2] => { results := [.lit (.bool true)], args := [d1, d2] }
  | _ => none }
def blakeApartRow : OpenClaim := { program := "ytmiifbamflkiaaadoor", sum := "eaf645ce9e2c95d0f87d09f0ec4adfc4d24d15ca588fa18212fb5a37a291b94e", func := "nuncio/nunciolaw03.BlakeApart", spec := "blakeApart", unfollowed := true, recurses := true, named := ["nuncio/blake.roots"], apart := false, laid := [("nuncio/blake.roots", laid_nuncio_blake_roots)] }
def BlakeApartSaid : Prop := blakeApartRow.holds Tryd.pinned (OpenSpec.ofChange blakeApartSpec)

/-- ITS FALSE NEIGHBOUR: 'it returns false'. Refute it at one input. -/
def blakeApartWrong : ChangeSpec := { name := "blakeApart", fn := fun _ => fun
  | [d1, d2] => { results := [.lit (.bool false)], args := [d1, d2] }
  | _ => none }
def BlakeApartWrongFalsely : Prop := blakeApartRow.holds Tryd.pinned (OpenSpec.ofChange blakeApartWrong)

/-- 'nunciolaw03.BlakeTells': WHATEVER THE INPUT: true; the input reads as it did. -/
def blakeTellsSpec : ChangeSpec := { name := "blakeTells", fn := fun _ => fun
  | [d1, d2, d3] => { results := [.lit (.bool true)], args := [d1, d2, d3] }
  | _ => none }
def blakeTellsRow : OpenClaim := { program := "ytmiifbamflkiaaadoor", sum := "eaf645ce9e2c95d0f87d09f0ec4adfc4d24d15ca588fa18212fb5a37a291b94e", func := "nuncio/nunciolaw03.BlakeTells", spec := "blakeTells", unfollowed := true, recurses := true, named := ["nuncio/blake.roots"], apart := false, laid := [("nuncio/blake.roots", laid_nuncio_blake_roots)] }
def BlakeTellsSaid : Prop := blakeTellsRow.holds Tryd.pinned (OpenSpec.ofChange blakeTellsSpec)

/-- ITS FALSE NEIGHBOUR: 'it returns false'. Refute it at one input. -/
def blakeTellsWrong : ChangeSpec := { name := "blakeTells", fn := fun _ => fun
  | [d1, d2, d3] => { results := [.lit (.bool false)], args := [d1, d2, d3] }
  | _ => none }
def BlakeTellsWrongFalsely : Prop := blakeTellsRow.holds Tryd.pinned (OpenSpec.ofChange blakeTellsWrong)

/-- 'nunciolaw03.BlakeTags': WHATEVER THE INPUT: true; the input reads as it did. -/
def blakeTagsSpec : ChangeSpec := { name := "blakeTags", fn := fun _ => fun
  | [d1, d2, d3] => { results := [.lit (.bool true)], args := [d1, d2, d3] }
  | _ => none }
def blakeTagsRow : OpenClaim := { program := "ytmiifbamflkiaaadoor", sum := "eaf645ce9e2c95d0f87d09f0ec4adfc4d24d15ca588fa18212fb5a37a291b94e", func := "nuncio/nunciolaw03.BlakeTags", spec := "blakeTags", unfollowed := true, recurses := true, named := ["nuncio/blake.roots"], apart := false, laid := [("nuncio/blake.roots", laid_nuncio_blake_roots)] }
def BlakeTagsSaid : Prop := blakeTagsRow.holds Tryd.pinned (OpenSpec.ofChange blakeTagsSpec)

/-- ITS FALSE NEIGHBOUR: 'it returns false'. Refute it at one input. -/
def blakeTagsWrong : ChangeSpec := { name := "blakeTags", fn := fun _ => fun
  | [d1, d2, d3] => { results := [.lit (.bool false)], args := [d1, d2, d3] }
  | _ => none }
def BlakeTagsWrongFalsely : Prop := blakeTagsRow.holds Tryd.pinned (OpenSpec.ofChange blakeTagsWrong)

/- THE SECOND FORM. 'bulk': how many values and letters a reading holds, each counted each time it is reached (what is shared counts as often as it is met; a slice's spare places count too). A statement '..UptoSaid' is the law's where the arguments, and the package variables that the reading takes, are together of bulk at most 1048576: NARROWER than '..Said'. Prove '..Said' where nothing that the law and all that it calls make is longer than what came in: it says more and counts as full. Else prove '..UptoSaid'. A law counts once. -/
mutual
def uptoBulk {H : Type} : DataW H → Nat
  | .lit (.string bytes) => bytes.length + 1
  | .lit _ => 1
  | .nil => 1
  | .ptr d => uptoBulk d + 1
  | .slice elems spare => uptoBulkAll elems + uptoBulkAll spare + 1
  | .agg parts => uptoBulkAll parts + 1
  | .iface _ d => uptoBulk d + 1
  | .map entries => uptoBulkEntries entries + 1
  | .held _ => 1
def uptoBulkAll {H : Type} : List (DataW H) → Nat
  | [] => 0
  | d :: r => uptoBulk d + uptoBulkAll r
def uptoBulkEntries {H : Type} : List (Lit × DataW H) → Nat
  | [] => 0
  | x :: r => uptoBulkEntry x + uptoBulkEntries r
def uptoBulkEntry {H : Type} : Lit × DataW H → Nat
  | (.string bytes, d) => bytes.length + uptoBulk d + 1
  | (_, d) => uptoBulk d + 1
 end
def uptoSmall : (H : Type) → List (DataW H) → Bool := fun _ ds => decide (uptoBulkAll ds ≤ 1048576)
def OpenSpec.upto (s : _root_.Go.ChangeSpec) : _root_.Go.OpenSpec := { _root_.Go.OpenSpec.ofChange s with cond := some uptoSmall }

/-- 'nunciolaw03.BlakeSums', WHERE WHAT IT READS IS OF BULK AT MOST 1048576: true; the input reads as it did. -/
def blakeSumsUptoRow : OpenClaim := { program := "ytmiifbamflkiaaadoor", sum := "eaf645ce9e2c95d0f87d09f0ec4adfc4d24d15ca588fa18212fb5a37a291b94e", func := "nuncio/nunciolaw03.BlakeSums", spec := "blakeSums", unfollowed := true, recurses := true, named := ["nuncio/blake.roots"], apart := false, laid := [("nuncio/blake.roots", laid_nuncio_blake_roots)], narrowed := true }
def BlakeSumsUptoSaid : Prop := blakeSumsUptoRow.holds Tryd.pinned (OpenSpec.upto blakeSumsSpec)

/-- 'nunciolaw03.BlakePieces', WHERE WHAT IT READS IS OF BULK AT MOST 1048576: true; the input reads as it did. -/
def blakePiecesUptoRow : OpenClaim := { program := "ytmiifbamflkiaaadoor", sum := "eaf645ce9e2c95d0f87d09f0ec4adfc4d24d15ca588fa18212fb5a37a291b94e", func := "nuncio/nunciolaw03.BlakePieces", spec := "blakePieces", unfollowed := true, recurses := true, named := ["nuncio/blake.roots"], apart := false, laid := [("nuncio/blake.roots", laid_nuncio_blake_roots)], narrowed := true }
def BlakePiecesUptoSaid : Prop := blakePiecesUptoRow.holds Tryd.pinned (OpenSpec.upto blakePiecesSpec)

/-- 'nunciolaw03.BlakeApart', WHERE WHAT IT READS IS OF BULK AT MOST 1048576: true; the input reads as it did. -/
def blakeApartUptoRow : OpenClaim := { program := "ytmiifbamflkiaaadoor", sum := "eaf645ce9e2c95d0f87d09f0ec4adfc4d24d15ca588fa18212fb5a37a291b94e", func := "nuncio/nunciolaw03.BlakeApart", spec := "blakeApart", unfollowed := true, recurses := true, named := ["nuncio/blake.roots"], apart := false, laid := [("nuncio/blake.roots", laid_nuncio_blake_roots)], narrowed := true }
def BlakeApartUptoSaid : Prop := blakeApartUptoRow.holds Tryd.pinned (OpenSpec.upto blakeApartSpec)

/-- 'nunciolaw03.BlakeTells', WHERE WHAT IT READS IS OF BULK AT MOST 1048576: true; the input reads as it did. -/
def blakeTellsUptoRow : OpenClaim := { program := "ytmiifbamflkiaaadoor", sum := "eaf645ce9e2c95d0f87d09f0ec4adfc4d24d15ca588fa18212fb5a37a291b94e", func := "nuncio/nunciolaw03.BlakeTells", spec := "blakeTells", unfollowed := true, recurses := true, named := ["nuncio/blake.roots"], apart := false, laid := [("nuncio/blake.roots", laid_nuncio_blake_roots)], narrowed := true }
def BlakeTellsUptoSaid : Prop := blakeTellsUptoRow.holds Tryd.pinned (OpenSpec.upto blakeTellsSpec)

/-- 'nunciolaw03.BlakeTags', WHERE WHAT IT READS IS OF BULK AT MOST 1048576: true; the input reads as it did. -/
def blakeTagsUptoRow : OpenClaim := { program := "ytmiifbamflkiaaadoor", sum := "eaf645ce9e2c95d0f87d09f0ec4adfc4d24d15ca588fa18212fb5a37a291b94e", func := "nuncio/nunciolaw03.BlakeTags", spec := "blakeTags", unfollowed := true, recurses := true, named := ["nuncio/blake.roots"], apart := false, laid := [("nuncio/blake.roots", laid_nuncio_blake_roots)], narrowed := true }
def BlakeTagsUptoSaid : Prop := blakeTagsUptoRow.holds Tryd.pinned (OpenSpec.upto blakeTagsSpec)

end Rows
end Go.Proofs.YtmiifbamflkiaaaDoor
