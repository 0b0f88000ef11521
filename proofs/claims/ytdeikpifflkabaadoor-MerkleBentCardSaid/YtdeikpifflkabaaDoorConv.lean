/- What this text proves: the conversion of bytes to a string. The conditions are how the slices lie in memory. -/
import Derived.Test.YtdeikpifflkabaaDoorProg
import Derived.Test.YtdeikpifflkabaaDoorBytes
import Derived.Laws.BytesArg
import Derived.Laws.Strings
namespace Go.Proofs.YtdeikpifflkabaaDoor
open Go.RowKit
set_option linter.unusedVariables false
set_option linter.unusedSimpArgs false

def strOf (xs : List UInt8) : ByteArray := ⟨xs.toArray⟩
theorem strOf_inj {xs ys : List UInt8} (h : strOf xs = strOf ys) : xs = ys := by
  injection h with h
  injection h
theorem strOf_eq (xs ys : List UInt8) : ((strOf xs).toList == (strOf ys).toList) = decide (xs = ys) := by
  have h : ∀ l : List UInt8, (strOf l).toList = l := fun l => ByteArray.toList_mk l
  rw [h, h]
  by_cases e : xs = ys
  · subst e; simp
  · rw [decide_eq_false e]
    exact beq_eq_false_iff_ne.2 e

theorem run_conv {P : Program} {w : World} {B src e dst : Nat} (hs : P.underlying src = some (.slice e)) (he : P.underlying e = some (.int .u8)) (hd : P.underlying dst = some .string) {A : Option Addr} {xs : List UInt8} (c : Nat) (h : Sl w B 1 A xs.length (bts xs)) :
    (convert src dst (.slice A xs.length c)).run P w = .ok (.string (strOf xs)) w := by
  rcases Nat.eq_zero_or_pos xs.length with h0 | h0
  · have hx : xs = [] := List.eq_nil_of_length_eq_zero h0
    subst hx
    cases A with
    | none => exact run_convert_bytes_nil w src e hs he 0 c dst hd
    | some a =>
      show (convert src dst (.slice (some a) 0 c)).run P w = _
      rw [run_convert_bytes_string w src dst e (some a) 0 c hs he hd]
      simp [Conv.bytesToString, loadCells, loadCellsFrom, strOf]
      rfl
  · obtain ⟨b, off, rfl, _, hc⟩ := h.2 h0
    have hcell : ∀ i, i < xs.length → w.cell? ⟨b, off + i, none⟩ = some (.int .u8 ((xs.map fun x => (x.toNat : Int)).getD i 0)) := by
      intro i hi
      have hx := List.getElem?_eq_getElem hi
      rw [hc i _ (bts_at hx)]
      simp [List.getD_eq_getElem?_getD, hx]
    have := run_convert_bytes_arg w src e hs he b off xs.length c (xs.map fun x => (x.toNat : Int)) (by simp) hcell dst hd
    rw [this]
    congr 2
    simp only [strOfNums, strOf, List.map_map]
    congr 2
    exact (List.map_congr_left (fun x _ => by simp)).trans (List.map_id _)

end Go.Proofs.YtdeikpifflkabaaDoor
