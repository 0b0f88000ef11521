/-
  No cell of these rows narrows 'for every input' (looked for: loops, veiled, ifaces, maps, wideKeys, modest, calm, conditions, laid).
  DERIVED. THE GIVEN ROWS OF THIS SEAT. 5 by the template 'for every input the law returns true; each argument reads behind the call as it read before'; 0 by the template 'total and deterministic' (their statements: YtfnhlallfgfkkaaTotals.lean).
  GIVEN WITH THE SEED: the statements are not yours to turn. If you find one false, say at which input.
  Laid BY PROGRAM, IN A SANDBOX (cutbox-rows.mjs): the forced cells as the released guide's own fill.sh prints them over the translation 16bf35e565fcaca4… (all of the seat's roots in one cut). By AI agents, Wed Nov 11 2026. No macro, syntax, notation, axiom, sorry.
-/
import Derived.Test.YtfnhlallfgfkkaaChecked
import GoSem.Claim
import GoSem.ClaimJoined
import GoSem.ClaimMapViews
import Derived.JoinedTies
import Derived.KernelRfl
namespace Go.Proofs.Ytfnhlallfgfkkaa
/- THE CELL 'sum', in the pinned program and in every row, IS THE sha256 OF THE DUMP (.gsa) THAT YtfnhlallfgfkkaaProg.lean LOADS. Nothing in Lean hashes anything: it is a label: what it is worth is what the hold of that sum in a sandbox is worth. -/
noncomputable def Try.pinned : Pinned := { name := "ytfnhlallfgfkkaa", sum := "16bf35e565fcaca47f406bb0f45262c2fcaaafc2d15002e68676ef567d64302e", checked := Try.checked }
namespace Rows
def none {H : Type} : Left H := { results := [], args := [] }

/-- 'nunciolaw08.TurnsFair': WHATEVER THE INPUT: true; the input reads as it did. -/
def turnsFairSpec : ChangeSpec := { name := "turnsFair", fn := fun _ => fun
  | [d] => { results := [.lit (.bool true)], args := [d] }
  | _ => none }
def turnsFairRow : OpenClaim := { program := "ytfnhlallfgfkkaa", sum := "16bf35e565fcaca47f406bb0f45262c2fcaaafc2d15002e68676ef567d64302e", func := "nuncio/nunciolaw08.TurnsFair", spec := "turnsFair", unfollowed := true, recurses := true, apart := false }
def TurnsFairSaid : Prop := turnsFairRow.holds Try.pinned (OpenSpec.ofChange turnsFairSpec)

/-- ITS FALSE NEIGHBOUR: 'it returns false'. Refute it at one input. -/
def turnsFairWrong : ChangeSpec := { name := "turnsFair", fn := fun _ => fun
  | [d] => { results := [.lit (.bool false)], args := [d] }
  | _ => none }
def TurnsFairWrongFalsely : Prop := turnsFairRow.holds Try.pinned (OpenSpec.ofChange turnsFairWrong)

/-- 'nunciolaw08.TurnsNext': WHATEVER THE INPUT: true; the input reads as it did. -/
def turnsNextSpec : ChangeSpec := { name := "turnsNext", fn := fun _ => fun
  | [d1, d2] => { results := [.lit (.bool true)], args := [d1, d2] }
  | _ => none }
def turnsNextRow : OpenClaim := { program := "ytfnhlallfgfkkaa", sum := "16bf35e565fcaca47f406bb0f45262c2fcaaafc2d15002e68676ef567d64302e", func := "nuncio/nunciolaw08.TurnsNext", spec := "turnsNext", unfollowed := true, recurses := true, apart := false }
def TurnsNextSaid : Prop := turnsNextRow.holds Try.pinned (OpenSpec.ofChange turnsNextSpec)

/-- ITS FALSE NEIGHBOUR: 'it returns false'. Refute it at one input. -/
def turnsNextWrong : ChangeSpec := { name := "turnsNext", fn := fun _ => fun
  | [d1, d2] => { results := [.lit (.bool false)], args := [d1, d2] }
  | _ => none }
def TurnsNextWrongFalsely : Prop := turnsNextRow.holds Try.pinned (OpenSpec.ofChange turnsNextWrong)

/-- 'nunciolaw08.TurnsFirst': WHATEVER THE INPUT: true; the input reads as it did. -/
def turnsFirstSpec : ChangeSpec := { name := "turnsFirst", fn := fun _ => fun
  | [d1, d2] => { results := [.lit (.bool true)], args := [d1, d2] }
  | _ => none }
def turnsFirstRow : OpenClaim := { program := "ytfnhlallfgfkkaa", sum := "16bf35e565fcaca47f406bb0f45262c2fcaaafc2d15002e68676ef567d64302e", func := "nuncio/nunciolaw08.TurnsFirst", spec := "turnsFirst", unfollowed := true, recurses := true, apart := false }
def TurnsFirstSaid : Prop := turnsFirstRow.holds Try.pinned (OpenSpec.ofChange turnsFirstSpec)

/-- ITS FALSE NEIGHBOUR: 'it returns false'. Refute it at one input. -/
def turnsFirstWrong : ChangeSpec := { name := "turnsFirst", fn := fun _ => fun
  | [d1, d2] => { results := [.lit (.bool false)], args := [d1, d2] }
  | _ => none }
def TurnsFirstWrongFalsely : Prop := turnsFirstRow.holds Try.pinned (OpenSpec.ofChange turnsFirstWrong)

/-- 'nunciolaw08.TurnsOrder': WHATEVER THE INPUT: true; the input reads as it did. -/
def turnsOrderSpec : ChangeSpec := { name := "turnsOrder", fn := fun _ => fun
  | [d1, d2, d3] => { results := [.lit (.bool true)], args := [d1, d2, d3] }
  | _ => none }
def turnsOrderRow : OpenClaim := { program := "ytfnhlallfgfkkaa", sum := "16bf35e565fcaca47f406bb0f45262c2fcaaafc2d15002e68676ef567d64302e", func := "nuncio/nunciolaw08.TurnsOrder", spec := "turnsOrder", unfollowed := true, recurses := true, apart := false }
def TurnsOrderSaid : Prop := turnsOrderRow.holds Try.pinned (OpenSpec.ofChange turnsOrderSpec)

/-- ITS FALSE NEIGHBOUR: 'it returns false'. Refute it at one input. -/
def turnsOrderWrong : ChangeSpec := { name := "turnsOrder", fn := fun _ => fun
  | [d1, d2, d3] => { results := [.lit (.bool false)], args := [d1, d2, d3] }
  | _ => none }
def TurnsOrderWrongFalsely : Prop := turnsOrderRow.holds Try.pinned (OpenSpec.ofChange turnsOrderWrong)

/-- 'nunciolaw08.TurnsOne': WHATEVER THE INPUT: true; the input reads as it did. -/
def turnsOneSpec : ChangeSpec := { name := "turnsOne", fn := fun _ => fun
  | [d1, d2, d3] => { results := [.lit (.bool true)], args := [d1, d2, d3] }
  | _ => none }
def turnsOneRow : OpenClaim := { program := "ytfnhlallfgfkkaa", sum := "16bf35e565fcaca47f406bb0f45262c2fcaaafc2d15002e68676ef567d64302e", func := "nuncio/nunciolaw08.TurnsOne", spec := "turnsOne", unfollowed := true, recurses := true, apart := false }
def TurnsOneSaid : Prop := turnsOneRow.holds Try.pinned (OpenSpec.ofChange turnsOneSpec)

/-- ITS FALSE NEIGHBOUR: 'it returns false'. Refute it at one input. -/
def turnsOneWrong : ChangeSpec := { name := "turnsOne", fn := fun _ => fun
  | [d1, d2, d3] => { results := [.lit (.bool false)], args := [d1, d2, d3] }
  | _ => none }
def TurnsOneWrongFalsely : Prop := turnsOneRow.holds Try.pinned (OpenSpec.ofChange turnsOneWrong)

/- THE SECOND FORM. 'bulk': how many values and letters a reading holds, each counted each time it is reached (what is shared counts as often as it is met; a slice's spare places count too). A statement '..UptoSaid' is the law's where the arguments, and the package variables that the reading takes, are together of bulk at most 1048576: NARROWER than '..Said'. Prove '..Said' where nothing that the law and all that it calls make is longer than what came in: it says more and counts as full. Else prove '..UptoSaid'. A law counts once. -/
mutual
def uptoBulk {H : Type} : DataW H → Nat
  | .lit (.string bytes) => bytes.length + 1
  | .lit _ => 1
  | .nil => 1
  | .ptr d => uptoBulk d + 1
  | .slice elems spare => uptoBulkAll elems + uptoBulkAll spare + 1
  | .agg parts => uptoBulkAll parts + 1
  | .iface _ d => uptoBulk d + 1
  | .map entries => uptoBulkEntries entries + 1
  | .held _ => 1
def uptoBulkAll {H : Type} : List (DataW H) → Nat
  | [] => 0
  | d :: r => uptoBulk d + uptoBulkAll r
def uptoBulkEntries {H : Type} : List (Lit × DataW H) → Nat
  | [] => 0
  | x :: r => uptoBulkEntry x + uptoBulkEntries r
def uptoBulkEntry {H : Type} : Lit × DataW H → Nat
  | (.string bytes, d) => bytes.length + uptoBulk d + 1
  | (_, d) => uptoBulk d + 1
 end
def uptoSmall : (H : Type) → List (DataW H) → Bool := fun _ ds => decide (uptoBulkAll ds ≤ 1048576)
def OpenSpec.upto (s : _root_.Go.ChangeSpec) : _root_.Go.OpenSpec := { _root_.Go.OpenSpec.ofChange s with cond := some uptoSmall }

/-- 'nunciolaw08.TurnsFair', WHERE WHAT IT READS IS OF BULK AT MOST 1048576: true; the input reads as it did. -/
def turnsFairUptoRow : OpenClaim := { program := "ytfnhlallfgfkkaa", sum := "16bf35e565fcaca47f406bb0f45262c2fcaaafc2d15002e68676ef567d64302e", func := "nuncio/nunciolaw08.TurnsFair", spec := "turnsFair", unfollowed := true, recurses := true, apart := false, narrowed := true }
def TurnsFairUptoSaid : Prop := turnsFairUptoRow.holds Try.pinned (OpenSpec.upto turnsFairSpec)

/-- 'nunciolaw08.TurnsNext', WHERE WHAT IT READS IS OF BULK AT MOST 1048576: true; the input reads as it did. -/
def turnsNextUptoRow : OpenClaim := { program := "ytfnhlallfgfkkaa", sum := "16bf35e565fcaca47f406bb0f45262c2fcaaafc2d15002e68676ef567d64302e", func := "nuncio/nunciolaw08.TurnsNext", spec := "turnsNext", unfollowed := true, recurses := true, apart := false, narrowed := true }
def TurnsNextUptoSaid : Prop := turnsNextUptoRow.holds Try.pinned (OpenSpec.upto turnsNextSpec)

/-- 'nunciolaw08.TurnsFirst', WHERE WHAT IT READS IS OF BULK AT MOST 1048576: true; the input reads as it did. -/
def turnsFirstUptoRow : OpenClaim := { program := "ytfnhlallfgfkkaa", sum := "16bf35e565fcaca47f406bb0f45262c2fcaaafc2d15002e68676ef567d64302e", func := "nuncio/nunciolaw08.TurnsFirst", spec := "turnsFirst", unfollowed := true, recurses := true, apart := false, narrowed := true }
def TurnsFirstUptoSaid : Prop := turnsFirstUptoRow.holds Try.pinned (OpenSpec.upto turnsFirstSpec)

/-- 'nunciolaw08.TurnsOrder', WHERE WHAT IT READS IS OF BULK AT MOST 1048576: true; the input reads as it did. -/
def turnsOrderUptoRow : OpenClaim := { program := "ytfnhlallfgfkkaa", sum := "16bf35e565fcaca47f406bb0f45262c2fcaaafc2d15002e68676ef567d64302e", func := "nuncio/nunciolaw08.TurnsOrder", spec := "turnsOrder", unfollowed := true, recurses := true, apart := false, narrowed := true }
def TurnsOrderUptoSaid : Prop := turnsOrderUptoRow.holds Try.pinned (OpenSpec.upto turnsOrderSpec)

/-- 'nunciolaw08.TurnsOne', WHERE WHAT IT READS IS OF BULK AT MOST 1048576: true; the input reads as it did. -/
def turnsOneUptoRow : OpenClaim := { program := "ytfnhlallfgfkkaa", sum := "16bf35e565fcaca47f406bb0f45262c2fcaaafc2d15002e68676ef567d64302e", func := "nuncio/nunciolaw08.TurnsOne", spec := "turnsOne", unfollowed := true, recurses := true, apart := false, narrowed := true }
def TurnsOneUptoSaid : Prop := turnsOneUptoRow.holds Try.pinned (OpenSpec.upto turnsOneSpec)

end Rows
end Go.Proofs.Ytfnhlallfgfkkaa
