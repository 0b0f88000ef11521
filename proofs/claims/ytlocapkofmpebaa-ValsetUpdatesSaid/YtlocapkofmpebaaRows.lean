/-
  No cell of these rows narrows 'for every input' (looked for: loops, veiled, ifaces, maps, wideKeys, modest, calm, conditions, laid).
  DERIVED. THE GIVEN ROWS OF THIS SEAT. 5 by the template 'for every input the law returns true; each argument reads behind the call as it read before'; 0 by the template 'total and deterministic' (their statements: YtlocapkofmpebaaTotals.lean).
  GIVEN WITH THE SEED: the statements are not yours to turn. If you find one false, say at which input.
  Laid BY PROGRAM, IN A SANDBOX (cutbox-rows.mjs): the forced cells as the released guide's own fill.sh prints them over the translation d88b301163c984e6… (all of the seat's roots in one cut). By AI agents, Wed Nov 11 2026. No macro, syntax, notation, axiom, sorry.
-/
import Derived.Test.YtlocapkofmpebaaChecked
import GoSem.Claim
import GoSem.ClaimJoined
import GoSem.ClaimMapViews
import Derived.JoinedTies
import Derived.KernelRfl
namespace Go.Proofs.Ytlocapkofmpebaa
/- THE CELL 'sum', in the pinned program and in every row, IS THE sha256 OF THE DUMP (.gsa) THAT YtlocapkofmpebaaProg.lean LOADS. Nothing in Lean hashes anything: it is a label: what it is worth is what the hold of that sum in a sandbox is worth. -/
noncomputable def Try.pinned : Pinned := { name := "ytlocapkofmpebaa", sum := "d88b301163c984e65f70eacad77d9a12b187d0d3ba3edc0795b5b2fd84cc3b54", checked := Try.checked }
namespace Rows
def none {H : Type} : Left H := { results := [], args := [] }

/-- 'nunciolaw07.ValsetUpdates': WHATEVER THE INPUT: true; the input reads as it did. -/
def valsetUpdatesSpec : ChangeSpec := { name := "valsetUpdates", fn := fun _ => fun
  | [d1, d2] => { results := [.lit (.bool true)], args := [d1, d2] }
  | _ => none }
def valsetUpdatesRow : OpenClaim := { program := "ytlocapkofmpebaa", sum := "d88b301163c984e65f70eacad77d9a12b187d0d3ba3edc0795b5b2fd84cc3b54", func := "nuncio/nunciolaw07.ValsetUpdates", spec := "valsetUpdates", inPlace := ["slices.overlaps[nuncio/api.Validator]"], unfollowed := true, recurses := true, apart := false }
def ValsetUpdatesSaid : Prop := valsetUpdatesRow.holds Try.pinned (OpenSpec.ofChange valsetUpdatesSpec)

/-- ITS FALSE NEIGHBOUR: 'it returns false'. Refute it at one input. -/
def valsetUpdatesWrong : ChangeSpec := { name := "valsetUpdates", fn := fun _ => fun
  | [d1, d2] => { results := [.lit (.bool false)], args := [d1, d2] }
  | _ => none }
def ValsetUpdatesWrongFalsely : Prop := valsetUpdatesRow.holds Try.pinned (OpenSpec.ofChange valsetUpdatesWrong)

/-- 'nunciolaw07.ValsetOrder': WHATEVER THE INPUT: true; the input reads as it did. -/
def valsetOrderSpec : ChangeSpec := { name := "valsetOrder", fn := fun _ => fun
  | [d1, d2, d3] => { results := [.lit (.bool true)], args := [d1, d2, d3] }
  | _ => none }
def valsetOrderRow : OpenClaim := { program := "ytlocapkofmpebaa", sum := "d88b301163c984e65f70eacad77d9a12b187d0d3ba3edc0795b5b2fd84cc3b54", func := "nuncio/nunciolaw07.ValsetOrder", spec := "valsetOrder", inPlace := ["slices.overlaps[nuncio/api.Validator]"], unfollowed := true, recurses := true, apart := false }
def ValsetOrderSaid : Prop := valsetOrderRow.holds Try.pinned (OpenSpec.ofChange valsetOrderSpec)

/-- ITS FALSE NEIGHBOUR: 'it returns false'. Refute it at one input. -/
def valsetOrderWrong : ChangeSpec := { name := "valsetOrder", fn := fun _ => fun
  | [d1, d2, d3] => { results := [.lit (.bool false)], args := [d1, d2, d3] }
  | _ => none }
def ValsetOrderWrongFalsely : Prop := valsetOrderRow.holds Try.pinned (OpenSpec.ofChange valsetOrderWrong)

/-- 'nunciolaw07.ValsetRight': WHATEVER THE INPUT: true; the input reads as it did. -/
def valsetRightSpec : ChangeSpec := { name := "valsetRight", fn := fun _ => fun
  | [d1, d2, d3] => { results := [.lit (.bool true)], args := [d1, d2, d3] }
  | _ => none }
def valsetRightRow : OpenClaim := { program := "ytlocapkofmpebaa", sum := "d88b301163c984e65f70eacad77d9a12b187d0d3ba3edc0795b5b2fd84cc3b54", func := "nuncio/nunciolaw07.ValsetRight", spec := "valsetRight", inPlace := ["slices.overlaps[nuncio/api.Validator]"], unfollowed := true, recurses := true, apart := false }
def ValsetRightSaid : Prop := valsetRightRow.holds Try.pinned (OpenSpec.ofChange valsetRightSpec)

/-- ITS FALSE NEIGHBOUR: 'it returns false'. Refute it at one input. -/
def valsetRightWrong : ChangeSpec := { name := "valsetRight", fn := fun _ => fun
  | [d1, d2, d3] => { results := [.lit (.bool false)], args := [d1, d2, d3] }
  | _ => none }
def ValsetRightWrongFalsely : Prop := valsetRightRow.holds Try.pinned (OpenSpec.ofChange valsetRightWrong)

/-- 'nunciolaw07.ValsetTotal': WHATEVER THE INPUT: true; the input reads as it did. -/
def valsetTotalSpec : ChangeSpec := { name := "valsetTotal", fn := fun _ => fun
  | [d1, d2] => { results := [.lit (.bool true)], args := [d1, d2] }
  | _ => none }
def valsetTotalRow : OpenClaim := { program := "ytlocapkofmpebaa", sum := "d88b301163c984e65f70eacad77d9a12b187d0d3ba3edc0795b5b2fd84cc3b54", func := "nuncio/nunciolaw07.ValsetTotal", spec := "valsetTotal", inPlace := ["slices.overlaps[nuncio/api.Validator]"], unfollowed := true, recurses := true, apart := false }
def ValsetTotalSaid : Prop := valsetTotalRow.holds Try.pinned (OpenSpec.ofChange valsetTotalSpec)

/-- ITS FALSE NEIGHBOUR: 'it returns false'. Refute it at one input. -/
def valsetTotalWrong : ChangeSpec := { name := "valsetTotal", fn := fun _ => fun
  | [d1, d2] => { results := [.lit (.bool false)], args := [d1, d2] }
  | _ => none }
def ValsetTotalWrongFalsely : Prop := valsetTotalRow.holds Try.pinned (OpenSpec.ofChange valsetTotalWrong)

/-- 'nunciolaw07.ValsetBack': WHATEVER THE INPUT: true; the input reads as it did. -/
def valsetBackSpec : ChangeSpec := { name := "valsetBack", fn := fun _ => fun
  | [d1, d2] => { results := [.lit (.bool true)], args := [d1, d2] }
  | _ => none }
def valsetBackRow : OpenClaim := { program := "ytlocapkofmpebaa", sum := "d88b301163c984e65f70eacad77d9a12b187d0d3ba3edc0795b5b2fd84cc3b54", func := "nuncio/nunciolaw07.ValsetBack", spec := "valsetBack", inPlace := ["slices.overlaps[nuncio/api.Validator]"], unfollowed := true, recurses := true, apart := false }
def ValsetBackSaid : Prop := valsetBackRow.holds Try.pinned (OpenSpec.ofChange valsetBackSpec)

/-- ITS FALSE NEIGHBOUR: 'it returns false'. Refute it at one input. -/
def valsetBackWrong : ChangeSpec := { name := "valsetBack", fn := fun _ => fun
  | [d1, d2] => { results := [.lit (.bool false)], args := [d1, d2] }
  | _ => none }
def ValsetBackWrongFalsely : Prop := valsetBackRow.holds Try.pinned (OpenSpec.ofChange valsetBackWrong)

/- THE SECOND FORM. 'bulk': how many values and letters a reading holds, each counted each time it is reached (what is shared counts as often as it is met; a slice's spare places count too). A statement '..UptoSaid' is the law's where the arguments, and the package variables that the reading takes, are together of bulk at most 1048576: NARROWER than '..Said'. Prove '..Said' where nothing that the law and all that it calls make is longer than what came in: it says more and counts as full. Else prove '..UptoSaid'. A law counts once. -/
mutual
def uptoBulk {H : Type} : DataW H → Nat
  | .lit (.string bytes) => bytes.length + 1
  | .lit _ => 1
  | .nil => 1
  | .ptr d => uptoBulk d + 1
  | .slice elems spare => uptoBulkAll elems + uptoBulkAll spare + 1
  | .agg parts => uptoBulkAll parts + 1
  | .iface _ d => uptoBulk d + 1
  | .map entries => uptoBulkEntries entries + 1
  | .held _ => 1
def uptoBulkAll {H : Type} : List (DataW H) → Nat
  | [] => 0
  | d :: r => uptoBulk d + uptoBulkAll r
def uptoBulkEntries {H : Type} : List (Lit × DataW H) → Nat
  | [] => 0
  | x :: r => uptoBulkEntry x + uptoBulkEntries r
def uptoBulkEntry {H : Type} : Lit × DataW H → Nat
  | (.string bytes, d) => bytes.length + uptoBulk d + 1
  | (_, d) => uptoBulk d + 1
 end
def uptoSmall : (H : Type) → List (DataW H) → Bool := fun _ ds => decide (uptoBulkAll ds ≤ 1048576)
def OpenSpec.upto (s : _root_.Go.ChangeSpec) : _root_.Go.OpenSpec := { _root_.Go.OpenSpec.ofChange s with cond := some uptoSmall }

/-- 'nunciolaw07.ValsetUpdates', WHERE WHAT IT READS IS OF BULK AT MOST 1048576: true; the input reads as it did. -/
def valsetUpdatesUptoRow : OpenClaim := { program := "ytlocapkofmpebaa", sum := "d88b301163c984e65f70eacad77d9a12b187d0d3ba3edc0795b5b2fd84cc3b54", func := "nuncio/nunciolaw07.ValsetUpdates", spec := "valsetUpdates", inPlace := ["slices.overlaps[nuncio/api.Validator]"], unfollowed := true, recurses := true, apart := false, narrowed := true }
def ValsetUpdatesUptoSaid : Prop := valsetUpdatesUptoRow.holds Try.pinned (OpenSpec.upto valsetUpdatesSpec)

/-- 'nunciolaw07.ValsetOrder', WHERE WHAT IT READS IS OF BULK AT MOST 1048576: true; the input reads as it did. -/
def valsetOrderUptoRow : OpenClaim := { program := "ytlocapkofmpebaa", sum := "d88b301163c984e65f70eacad77d9a12b187d0d3ba3edc0795b5b2fd84cc3b54", func := "nuncio/nunciolaw07.ValsetOrder", spec := "valsetOrder", inPlace := ["slices.overlaps[nuncio/api.Validator]"], unfollowed := true, recurses := true, apart := false, narrowed := true }
def ValsetOrderUptoSaid : Prop := valsetOrderUptoRow.holds Try.pinned (OpenSpec.upto valsetOrderSpec)

/-- 'nunciolaw07.ValsetRight', WHERE WHAT IT READS IS OF BULK AT MOST 1048576: true; the input reads as it did. -/
def valsetRightUptoRow : OpenClaim := { program := "ytlocapkofmpebaa", sum := "d88b301163c984e65f70eacad77d9a12b187d0d3ba3edc0795b5b2fd84cc3b54", func := "nuncio/nunciolaw07.ValsetRight", spec := "valsetRight", inPlace := ["slices.overlaps[nuncio/api.Validator]"], unfollowed := true, recurses := true, apart := false, narrowed := true }
def ValsetRightUptoSaid : Prop := valsetRightUptoRow.holds Try.pinned (OpenSpec.upto valsetRightSpec)

/-- 'nunciolaw07.ValsetTotal', WHERE WHAT IT READS IS OF BULK AT MOST 1048576: true; the input reads as it did. -/
def valsetTotalUptoRow : OpenClaim := { program := "ytlocapkofmpebaa", sum := "d88b301163c984e65f70eacad77d9a12b187d0d3ba3edc0795b5b2fd84cc3b54", func := "nuncio/nunciolaw07.ValsetTotal", spec := "valsetTotal", inPlace := ["slices.overlaps[nuncio/api.Validator]"], unfollowed := true, recurses := true, apart := false, narrowed := true }
def ValsetTotalUptoSaid : Prop := valsetTotalUptoRow.holds Try.pinned (OpenSpec.upto valsetTotalSpec)

/-- 'nunciolaw07.ValsetBack', WHERE WHAT IT READS IS OF BULK AT MOST 1048576: true; the input reads as it did. -/
def valsetBackUptoRow : OpenClaim := { program := "ytlocapkofmpebaa", sum := "d88b301163c984e65f70eacad77d9a12b187d0d3ba3edc0795b5b2fd84cc3b54", func := "nuncio/nunciolaw07.ValsetBack", spec := "valsetBack", inPlace := ["slices.overlaps[nuncio/api.Validator]"], unfollowed := true, recurses := true, apart := false, narrowed := true }
def ValsetBackUptoSaid : Prop := valsetBackUptoRow.holds Try.pinned (OpenSpec.upto valsetBackSpec)

end Rows
end Go.Proofs.Ytlocapkofmpebaa
