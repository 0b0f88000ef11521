/- What this text proves: nothing yet: the plain functions on lists of validators that the contracts of the package valset name. -/
import Derived.Test.YthbkcjjpdhdidaaDoorBase
namespace Go.Proofs.YthbkcjjpdhdidaaDoor

/-- The sum of all powers, and whether it may be. -/
def sumV : Int → List (Int × Int) → Int × Bool
  | n, [] => (n, true)
  | n, v :: l => if v.2 < 1 ∨ 1125899906842624 - n < v.2 then (0, false) else sumV (n + v.2) l
/-- Rising keys. -/
def ascV : List (Int × Int) → Bool
  | [] => true
  | [_] => true
  | a :: b :: l => decide (a.1 < b.1) && ascV (b :: l)
/-- Whether a set may be. -/
def rightV (l : List (Int × Int)) : Bool := (((sumV 0 l).2 && ascV l) && decide (1 ≤ l.length)) && decide (l.length ≤ 64)
/-- All power, and the error's number. -/
def totalV (l : List (Int × Int)) : Int × Int := if rightV l then ((sumV 0 l).1, 0) else (0, 71)
/-- A key's power. -/
def powerV : List (Int × Int) → Int → Int
  | [], _ => 0
  | v :: l, key => if v.1 = key then v.2 else powerV l key
end Go.Proofs.YthbkcjjpdhdidaaDoor
