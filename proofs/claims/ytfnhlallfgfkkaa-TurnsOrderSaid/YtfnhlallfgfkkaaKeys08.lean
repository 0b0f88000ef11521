/- What this text proves: turns.Order's contract, where it gives turns, over the list of keys. The condition: the set is right, and no more turns are asked for than may be. -/
import Derived.Test.YtfnhlallfgfkkaaSame08
namespace Go.Proofs.Ytfnhlallfgfkkaa
open Go.RowKit
set_option linter.unusedVariables false
set_option linter.unusedSimpArgs false

def keys (l : List (Int × Int)) (n : Nat) : List Int := (List.range n).map (keyAt l)
theorem keys_len (l : List (Int × Int)) (n : Nat) : (keys l n).length = n := by simp [keys]
theorem keys_get {l : List (Int × Int)} {n k : Nat} (h : k < n) : (u64s (keys l n))[k]? = some (.int .u64 (keyAt l k)) := by
  simp [u64s, keys, h]
theorem keys_take {l : List (Int × Int)} {n k : Nat} (h : k ≤ n) : (u64s (keys l n)).take k = u64s (keys l k) := by
  simp [u64s, keys, ← List.map_take, List.take_range, Nat.min_eq_left h]

/-- Order, where it gives turns. -/
theorem order_keys (A : Option Addr) (l : List (Int × Int)) (c N : Nat) (w : World) (hr : rightV l = true) (h : N ≤ 4096) (hA : Sl w w.heap.size 2 A l.length (vCells l)) :
    Calls Try.prog 10 #[.slice A l.length c, .int .i64 N] w fun e w' =>
      ∃ A' c', e = .returned (.tuple #[.slice A' N c', .int .i64 0]) ∧ N ≤ c' ∧ c' ≤ maxLen ∧ Sl w' w'.heap.size 1 A' N (u64s (keys l N)) ∧ Below w.heap.size w w' := by
  obtain ⟨_, _, _, h4⟩ := rightV_sum hr
  refine (order_any A l c N w (by unfold maxLen; omega) hA).mono ?_
  rw [orderV_some hr h]
  rintro e w' ⟨v, rfl, hrow, hb⟩
  simp only [List.length_map, List.length_range] at hrow
  obtain ⟨A', c', rfl, h1, h2, h3⟩ := own_sl hrow
  exact ⟨A', c', rfl, h1, h2, h3, hb⟩

end Go.Proofs.Ytfnhlallfgfkkaa
