/-
  No cell of these rows narrows 'for every input' (looked for: loops, veiled, ifaces, maps, wideKeys, modest, calm, conditions, laid).
  DERIVED. THE GIVEN ROWS OF THIS SEAT. 3 by the template 'for every input the law returns true; each argument reads behind the call as it read before'; 0 by the template 'total and deterministic' (their statements: YtcnmoallgfdomaaTotals.lean).
  GIVEN WITH THE SEED: the statements are not yours to turn. If you find one false, say at which input.
  Laid BY PROGRAM, IN A SANDBOX (cutbox-rows.mjs): the forced cells as the released guide's own fill.sh prints them over the translation 52bc6b713e6e1bf7… (all of the seat's roots in one cut). By AI agents, Wed Nov 11 2026. No macro, syntax, notation, axiom, sorry.
-/
import Derived.Test.YtcnmoallgfdomaaChecked
import GoSem.Claim
import GoSem.ClaimJoined
import GoSem.ClaimMapViews
import Derived.JoinedTies
import Derived.KernelRfl
namespace Go.Proofs.Ytcnmoallgfdomaa
/- THE CELL 'sum', in the pinned program and in every row, IS THE sha256 OF THE DUMP (.gsa) THAT YtcnmoallgfdomaaProg.lean LOADS. Nothing in Lean hashes anything: it is a label: what it is worth is what the hold of that sum in a sandbox is worth. -/
noncomputable def Try.pinned : Pinned := { name := "ytcnmoallgfdomaa", sum := "52bc6b713e6e1bf722f0436abf85f932ac98b36804764652ea1e3df625851599", checked := Try.checked }
namespace Rows
def none {H : Type} : Left H := { results := [], args := [] }

/-- 'nunciolaw04.SchnorrPowers': WHATEVER THE INPUT: true; the input reads as it did. -/
def schnorrPowersSpec : ChangeSpec := { name := "schnorrPowers", fn := fun _ => fun
  | [d1, d2, d3] => { results := [.lit (.bool true)], args := [d1, d2, d3] }
  | _ => none }
def schnorrPowersRow : OpenClaim := { program := "ytcnmoallgfdomaa", sum := "52bc6b713e6e1bf722f0436abf85f932ac98b36804764652ea1e3df625851599", func := "nuncio/nunciolaw04.SchnorrPowers", spec := "schnorrPowers", named := ["math/bits.divideError", "math/bits.overflowError"], apart := false }
def SchnorrPowersSaid : Prop := schnorrPowersRow.holds Try.pinned (OpenSpec.ofChange schnorrPowersSpec)

/-- ITS FALSE NEIGHBOUR: 'it returns false'. Refute it at one input. -/
def schnorrPowersWrong : ChangeSpec := { name := "schnorrPowers", fn := fun _ => fun
  | [d1, d2, d3] => { results := [.lit (.bool false)], args := [d1, d2, d3] }
  | _ => none }
def SchnorrPowersWrongFalsely : Prop := schnorrPowersRow.holds Try.pinned (OpenSpec.ofChange schnorrPowersWrong)

/-- 'nunciolaw04.SchnorrSums': WHATEVER THE INPUT: true; the input reads as it did. -/
def schnorrSumsSpec : ChangeSpec := { name := "schnorrSums", fn := fun _ => fun
  | [d1, d2, d3] => { results := [.lit (.bool true)], args := [d1, d2, d3] }
  | _ => none }
def schnorrSumsRow : OpenClaim := { program := "ytcnmoallgfdomaa", sum := "52bc6b713e6e1bf722f0436abf85f932ac98b36804764652ea1e3df625851599", func := "nuncio/nunciolaw04.SchnorrSums", spec := "schnorrSums", named := ["math/bits.divideError", "math/bits.overflowError"], apart := false }
def SchnorrSumsSaid : Prop := schnorrSumsRow.holds Try.pinned (OpenSpec.ofChange schnorrSumsSpec)

/-- ITS FALSE NEIGHBOUR: 'it returns false'. Refute it at one input. -/
def schnorrSumsWrong : ChangeSpec := { name := "schnorrSums", fn := fun _ => fun
  | [d1, d2, d3] => { results := [.lit (.bool false)], args := [d1, d2, d3] }
  | _ => none }
def SchnorrSumsWrongFalsely : Prop := schnorrSumsRow.holds Try.pinned (OpenSpec.ofChange schnorrSumsWrong)

/-- 'nunciolaw04.SchnorrKeys': WHATEVER THE INPUT: true; the input reads as it did. -/
def schnorrKeysSpec : ChangeSpec := { name := "schnorrKeys", fn := fun _ => fun
  | [d1, d2] => { results := [.lit (.bool true)], args := [d1, d2] }
  | _ => none }
def schnorrKeysRow : OpenClaim := { program := "ytcnmoallgfdomaa", sum := "52bc6b713e6e1bf722f0436abf85f932ac98b36804764652ea1e3df625851599", func := "nuncio/nunciolaw04.SchnorrKeys", spec := "schnorrKeys", named := ["math/bits.divideError", "math/bits.overflowError"], apart := false }
def SchnorrKeysSaid : Prop := schnorrKeysRow.holds Try.pinned (OpenSpec.ofChange schnorrKeysSpec)

/-- ITS FALSE NEIGHBOUR: 'it returns false'. Refute it at one input. -/
def schnorrKeysWrong : ChangeSpec := { name := "schnorrKeys", fn := fun _ => fun
  | [d1, d2] => { results := [.lit (.bool false)], args := [d1, d2] }
  | _ => none }
def SchnorrKeysWrongFalsely : Prop := schnorrKeysRow.holds Try.pinned (OpenSpec.ofChange schnorrKeysWrong)

/- THE SECOND FORM. 'bulk': how many values and letters a reading holds, each counted each time it is reached (what is shared counts as often as it is met; a slice's spare places count too). A statement '..UptoSaid' is the law's where the arguments, and the package variables that the reading takes, are together of bulk at most 1048576: NARROWER than '..Said'. Prove '..Said' where nothing that the law and all that it calls make is longer than what came in: it says more and counts as full. Else prove '..UptoSaid'. A law counts once. -/
mutual
def uptoBulk {H : Type} : DataW H → Nat
  | .lit (.string bytes) => bytes.length + 1
  | .lit _ => 1
  | .nil => 1
  | .ptr d => uptoBulk d + 1
  | .slice elems spare => uptoBulkAll elems + uptoBulkAll spare + 1
  | .agg parts => uptoBulkAll parts + 1
  | .iface _ d => uptoBulk d + 1
  | .map entries => uptoBulkEntries entries + 1
  | .held _ => 1
def uptoBulkAll {H : Type} : List (DataW H) → Nat
  | [] => 0
  | d :: r => uptoBulk d + uptoBulkAll r
def uptoBulkEntries {H : Type} : List (Lit × DataW H) → Nat
  | [] => 0
  | x :: r => uptoBulkEntry x + uptoBulkEntries r
def uptoBulkEntry {H : Type} : Lit × DataW H → Nat
  | (.string bytes, d) => bytes.length + uptoBulk d + 1
  | (_, d) => uptoBulk d + 1
 end
def uptoSmall : (H : Type) → List (DataW H) → Bool := fun _ ds => decide (uptoBulkAll ds ≤ 1048576)
def OpenSpec.upto (s : _root_.Go.ChangeSpec) : _root_.Go.OpenSpec := { _root_.Go.OpenSpec.ofChange s with cond := some uptoSmall }

/-- 'nunciolaw04.SchnorrPowers', WHERE WHAT IT READS IS OF BULK AT MOST 1048576: true; the input reads as it did. -/
def schnorrPowersUptoRow : OpenClaim := { program := "ytcnmoallgfdomaa", sum := "52bc6b713e6e1bf722f0436abf85f932ac98b36804764652ea1e3df625851599", func := "nuncio/nunciolaw04.SchnorrPowers", spec := "schnorrPowers", named := ["math/bits.divideError", "math/bits.overflowError"], apart := false, narrowed := true }
def SchnorrPowersUptoSaid : Prop := schnorrPowersUptoRow.holds Try.pinned (OpenSpec.upto schnorrPowersSpec)

/-- 'nunciolaw04.SchnorrSums', WHERE WHAT IT READS IS OF BULK AT MOST 1048576: true; the input reads as it did. -/
def schnorrSumsUptoRow : OpenClaim := { program := "ytcnmoallgfdomaa", sum := "52bc6b713e6e1bf722f0436abf85f932ac98b36804764652ea1e3df625851599", func := "nuncio/nunciolaw04.SchnorrSums", spec := "schnorrSums", named := ["math/bits.divideError", "math/bits.overflowError"], apart := false, narrowed := true }
def SchnorrSumsUptoSaid : Prop := schnorrSumsUptoRow.holds Try.pinned (OpenSpec.upto schnorrSumsSpec)

/-- 'nunciolaw04.SchnorrKeys', WHERE WHAT IT READS IS OF BULK AT MOST 1048576: true; the input reads as it did. -/
def schnorrKeysUptoRow : OpenClaim := { program := "ytcnmoallgfdomaa", sum := "52bc6b713e6e1bf722f0436abf85f932ac98b36804764652ea1e3df625851599", func := "nuncio/nunciolaw04.SchnorrKeys", spec := "schnorrKeys", named := ["math/bits.divideError", "math/bits.overflowError"], apart := false, narrowed := true }
def SchnorrKeysUptoSaid : Prop := schnorrKeysUptoRow.holds Try.pinned (OpenSpec.upto schnorrKeysSpec)

end Rows
end Go.Proofs.Ytcnmoallgfdomaa
