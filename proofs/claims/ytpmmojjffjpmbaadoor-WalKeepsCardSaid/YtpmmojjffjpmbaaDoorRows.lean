/-
  NARROWER THAN 'FOR EVERY INPUT', by the rows' own cells (each row's printed sentence says how): WalScans: laid · WalOnly: laid · WalNil: laid · WalPlays: laid · WalKeeps: laid.
  DERIVED. THE GIVEN ROWS OF THIS SEAT. 5 by the template 'for every input the law returns true; each argument reads behind the call as it read before'; 0 by the template 'total and deterministic' (their statements: YtpmmojjffjpmbaaDoorTotals.lean).
  GIVEN WITH THE SEED: the statements are not yours to turn. If you find one false, say at which input.
  Laid BY PROGRAM, IN A SANDBOX (cutbox-rows.mjs): the forced cells as the released guide's own fill.sh prints them over the translation ef695b19fef5b068… (all of the seat's roots in one cut). By AI agents, Wed Nov 11 2026. No macro, syntax, notation, axiom, sorry.
-/
import Derived.Test.YtpmmojjffjpmbaaDoorChecked
import GoSem.Claim
import GoSem.ClaimJoined
import GoSem.ClaimMapViews
import Derived.JoinedTies
import Derived.KernelRfl
namespace Go.Proofs.YtpmmojjffjpmbaaDoor
/- THE CELL 'sum', in the pinned program and in every row, IS THE sha256 OF THE DUMP (.gsa) THAT YtpmmojjffjpmbaaDoorProg.lean LOADS. Nothing in Lean hashes anything: it is a label: what it is worth is what the hold of that sum in a sandbox is worth. -/
noncomputable def Tryd.pinned : Pinned := { name := "ytpmmojjffjpmbaadoor", sum := "ef695b19fef5b068f03a3e595299008eee4e213da9d48a454bacd99a95462e0c", checked := Tryd.checked }
namespace Rows
def none {H : Type} : Left H := { results := [], args := [] }

/- WHAT THE LISTED PACKAGE-LEVEL VARIABLES READ AS WHEN THE CALL BEGINS. Each datum BY PROGRAM (the guide's laid-datum.mjs) off the statement by which the dump's own 'gosem.cut.vars' lays the variable. In a bare row this is a premise. The card (YtpmmojjffjpmbaaDoorCards.lean) ties it to the program's text. -/
def laid_nuncio_blake_roots {H : Type} : DataW H := .agg [.lit (.int .u32 1779033703), .lit (.int .u32 3144134277), .lit (.int .u32 1013904242), .lit (.int .u32 2773480762), .lit (.int .u32 1359893119), .lit (.int .u32 2600822924), .lit (.int .u32 528734635), .lit (.int .u32 1541459225)]

/-- 'nunciolaw11.WalScans': WHATEVER THE INPUT: true; the input reads as it did. -/
def walScansSpec : ChangeSpec := { name := "walScans", fn := fun _ => fun
  | [d] => { results := [.lit (.bool true)], args := [d] }
  | _ => none }
def walScansRow : OpenClaim := { program := "ytpmmojjffjpmbaadoor", sum := "ef695b19fef5b068f03a3e595299008eee4e213da9d48a454bacd99a95462e0c", func := "nuncio/nunciolaw11.WalScans", spec := "walScans", unfollowed := true, recurses := true, named := ["nuncio/blake.roots"], apart := false, laid := [("nuncio/blake.roots", laid_nuncio_blake_roots)] }
def WalScansSaid : Prop := walScansRow.holds Tryd.pinned (OpenSpec.ofChange walScansSpec)

/-- ITS FALSE NEIGHBOUR: 'it returns false'. Refute it at one input. -/
def walScansWrong : ChangeSpec := { name := "walScans", fn := fun _ => fun
  | [d] => { results := [.lit (.bool false)], args := [d] }
  | _ => none }
def WalScansWrongFalsely : Prop := walScansRow.holds Tryd.pinned (OpenSpec.ofChange walScansWrong)

/-- 'nunciolaw11.WalOnly': WHATEVER THE INPUT: true; the input reads as it did. -/
def walOnlySpec : ChangeSpec := { name := "walOnly", fn := fun _ => fun
  | [d1, d2] => { results := [.lit (.bool true)], args := [d1, d2] }
  | _ => none }
def walOnlyRow : OpenClaim := { program := "ytpmmojjffjpmbaadoor", sum := "ef695b19fef5b068f03a3e595299008eee4e213da9d48a454bacd99a95462e0c", func := "nuncio/nunciolaw11.WalOnly", spec := "walOnly", unfollowed := true, recurses := true, named := ["nuncio/blake.roots"], apart := false, laid := [("nuncio/blake.roots", laid_nuncio_blake_roots)] }
def WalOnlySaid : Prop := walOnlyRow.holds Tryd.pinned (OpenSpec.ofChange walOnlySpec)

/-- ITS FALSE NEIGHBOUR: 'it returns false'. Refute it at one input. -/
def walOnlyWrong : ChangeSpec := { name := "walOnly", fn := fun _ => fun
  | [d1, d2] => { results := [.lit (.bool false)], args := [d1, d2] }
  | _ => none }
def WalOnlyWrongFalsely : Prop := walOnlyRow.holds Tryd.pinned (OpenSpec.ofChange walOnlyWrong)

/-- 'nunciolaw11.WalNil': WHATEVER THE INPUT: true; the input reads as it did. -/
def walNilSpec : ChangeSpec := { name := "walNil", fn := fun _ => fun
  | [d] => { results := [.lit (.bool true)], args := [d] }
  | _ => none }
def walNilRow : OpenClaim := { program := "ytpmmojjffjpmbaadoor", sum := "ef695b19fef5b068f03a3e595299008eee4e213da9d48a454bacd99a95462e0c", func := "nuncio/nunciolaw11.WalNil", spec := "walNil", unfollowed := true, recurses := true, named := ["nuncio/blake.roots"], apart := false, laid := [("nuncio/blake.roots", laid_nuncio_blake_roots)] }
def WalNilSaid : Prop := walNilRow.holds Tryd.pinned (OpenSpec.ofChange walNilSpec)

/-- ITS FALSE NEIGHBOUR: 'it returns false'. Refute it at one input. -/
def walNilWrong : ChangeSpec := { name := "walNil", fn := fun _ => fun
  | [d] => { results := [.lit (.bool false)], args := [d] }
  | _ => none }
def WalNilWrongFalsely : Prop := walNilRow.holds Tryd.pinned (OpenSpec.ofChange walNilWrong)

/-- 'nunciolaw11.WalPlays': WHATEVER THE INPUT: true; the input reads as it did. -/
def walPlaysSpec : ChangeSpec := { name := "walPlays", fn := fun _ => fun
  | [d] => { results := [.lit (.bool true)], args := [d] }
  | _ => none }
def walPlaysRow : OpenClaim := { program := "ytpmmojjffjpmbaadoor", sum := "ef695b19fef5b068f03a3e595299008eee4e213da9d48a454bacd99a95462e0c", func := "nuncio/nunciolaw11.WalPlays", spec := "walPlays", unfollowed := true, recurses := true, named := ["nuncio/blake.roots"], apart := false, laid := [("nuncio/blake.roots", laid_nuncio_blake_roots)] }
def WalPlaysSaid : Prop := walPlaysRow.holds Tryd.pinned (OpenSpec.ofChange walPlaysSpec)

/-- ITS FALSE NEIGHBOUR: 'it returns false'. Refute it at one input. -/
def walPlaysWrong : ChangeSpec := { name := "walPlays", fn := fun _ => fun
  | [d] => { results := [.lit (.bool false)], args := [d] }
  | _ => none }
def WalPlaysWrongFalsely : Prop := walPlaysRow.holds Tryd.pinned (OpenSpec.ofChange walPlaysWrong)

/-- 'nunciolaw11.WalKeeps': WHATEVER THE INPUT: true; the input reads as it did. -/
def walKeepsSpec : ChangeSpec := { name := "walKeeps", fn := fun _ => fun
  | [d1, d2, d3] => { results := [.lit (.bool true)], args := [d1, d2, d3] }
  | _ => none }
def walKeepsRow : OpenClaim := { program := "ytpmmojjffjpmbaadoor", sum := "ef695b19fef5b068f03a3e595299008eee4e213da9d48a454bacd99a95462e0c", func := "nuncio/nunciolaw11.WalKeeps", spec := "walKeeps", unfollowed := true, recurses := true, named := ["nuncio/blake.roots"], apart := false, laid := [("nuncio/blake.roots", laid_nuncio_blake_roots)] }
def WalKeepsSaid : Prop := walKeepsRow.holds Tryd.pinned (OpenSpec.ofChange walKeepsSpec)

/-- ITS FALSE NEIGHBOUR: 'it returns false'. Refute it at one input. -/
def walKeepsWrong : ChangeSpec := { name := "walKeeps", fn := fun _ => fun
  | [d1, d2, d3] => { results := [.lit (.bool false)], args := [d1, d2, d3] }
  | _ => none }
def WalKeepsWrongFalsely : Prop := walKeepsRow.holds Tryd.pinned (OpenSpec.ofChange walKeepsWrong)

/- THE SECOND FORM. 'bulk': how many values and letters a reading holds, each counted each time it is reached (what is shared counts as often as it is met; a slice's spare places count too). A statement '..UptoSaid' is the law's where the arguments, and the package variables that the reading takes, are together of bulk at most 1048576: NARROWER than '..Said'. Prove '..Said' where nothing that the law and all that it calls make is longer than what came in: it says more and counts as full. Else prove '..UptoSaid'. A law counts once. -/
mutual
def uptoBulk {H : Type} : DataW H → Nat
  | .lit (.string bytes) => bytes.length + 1
  | .lit _ => 1
  | .nil => 1
  | .ptr d => uptoBulk d + 1
  | .slice elems spare => uptoBulkAll elems + uptoBulkAll spare + 1
  | .agg parts => uptoBulkAll parts + 1
  | .iface _ d => uptoBulk d + 1
  | .map entries => uptoBulkEntries entries + 1
  | .held _ => 1
def uptoBulkAll {H : Type} : List (DataW H) → Nat
  | [] => 0
  | d :: r => uptoBulk d + uptoBulkAll r
def uptoBulkEntries {H : Type} : List (Lit × DataW H) → Nat
  | [] => 0
  | x :: r => uptoBulkEntry x + uptoBulkEntries r
def uptoBulkEntry {H : Type} : Lit × DataW H → Nat
  | (.string bytes, d) => bytes.length + uptoBulk d + 1
  | (_, d) => uptoBulk d + 1
 end
def uptoSmall : (H : Type) → List (DataW H) → Bool := fun _ ds => decide (uptoBulkAll ds ≤ 1048576)
def OpenSpec.upto (s : _root_.Go.ChangeSpec) : _root_.Go.OpenSpec := { _root_.Go.OpenSpec.ofChange s with cond := some uptoSmall }

/-- 'nunciolaw11.WalScans', WHERE WHAT IT READS IS OF BULK AT MOST 1048576: true; the input reads as it did. -/
def walScansUptoRow : OpenClaim := { program := "ytpmmojjffjpmbaadoor", sum := "ef695b19fef5b068f03a3e595299008eee4e213da9d48a454bacd99a95462e0c", func := "nuncio/nunciolaw11.WalScans", spec := "walScans", unfollowed := true, recurses := true, named := ["nuncio/blake.roots"], apart := false, laid := [("nuncio/blake.roots", laid_nuncio_blake_roots)], narrowed := true }
def WalScansUptoSaid : Prop := walScansUptoRow.holds Tryd.pinned (OpenSpec.upto walScansSpec)

/-- 'nunciolaw11.WalOnly', WHERE WHAT IT READS IS OF BULK AT MOST 1048576: true; the input reads as it did. -/
def walOnlyUptoRow : OpenClaim := { program := "ytpmmojjffjpmbaadoor", sum := "ef695b19fef5b068f03a3e595299008eee4e213da9d48a454bacd99a95462e0c", func := "nuncio/nunciolaw11.WalOnly", spec := "walOnly", unfollowed := true, recurses := true, named := ["nuncio/blake.roots"], apart := false, laid := [("nuncio/blake.roots", laid_nuncio_blake_roots)], narrowed := true }
def WalOnlyUptoSaid : Prop := walOnlyUptoRow.holds Tryd.pinned (OpenSpec.upto walOnlySpec)

/-- 'nunciolaw11.WalNil', WHERE WHAT IT READS IS OF BULK AT MOST 1048576: true; the input reads as it did. -/
def walNilUptoRow : OpenClaim := { program := "ytpmmojjffjpmbaadoor", sum := "ef695b19fef5b068f03a3e595299008eee4e213da9d48a454bacd99a95462e0c", func := "nuncio/nunciolaw11.WalNil", spec := "walNil", unfollowed := true, recurses := true, named := ["nuncio/blake.roots"], apart := false, laid := [("nuncio/blake.roots", laid_nuncio_blake_roots)], narrowed := true }
def WalNilUptoSaid : Prop := walNilUptoRow.holds Tryd.pinned (OpenSpec.upto walNilSpec)

/-- 'nunciolaw11.WalPlays', WHERE WHAT IT READS IS OF BULK AT MOST 1048576: true; the input reads as it did. -/
def walPlaysUptoRow : OpenClaim := { program := "ytpmmojjffjpmbaadoor", sum := "ef695b19fef5b068f03a3e595299008eee4e213da9d48a454bacd99a95462e0c", func := "nuncio/nunciolaw11.WalPlays", spec := "walPlays", unfollowed := true, recurses := true, named := ["nuncio/blake.roots"], apart := false, laid := [("nuncio/blake.roots", laid_nuncio_blake_roots)], narrowed := true }
def WalPlaysUptoSaid : Prop := walPlaysUptoRow.holds Tryd.pinned (OpenSpec.upto walPlaysSpec)

/-- 'nunciolaw11.WalKeeps', WHERE WHAT IT READS IS OF BULK AT MOST 1048576: true; the input reads as it did. -/
def walKeepsUptoRow : OpenClaim := { program := "ytpmmojjffjpmbaadoor", sum := "ef695b19fef5b068f03a3e595299008eee4e213da9d48a454bacd99a95462e0c", func := "nuncio/nunciolaw11.WalKeeps", spec := "walKeeps", unfollowed := true, recurses := true, named := ["nuncio/blake.roots"], apart := false, laid := [("nuncio/blake.roots", laid_nuncio_blake_roots)], narrowed := true }
def WalKeepsUptoSaid : Prop := walKeepsUptoRow.holds Tryd.pinned (OpenSpec.upto walKeepsSpec)

end Rows
end Go.Proofs.YtpmmojjffjpmbaaDoor
