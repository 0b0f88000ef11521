/- What this text proves: the contract of layer 8's helper 'same': whether two lists of numbers are one. No condition but that they are no longer than a slice can be. -/
import Derived.Test.YtfnhlallfgfkkaaOrder
import Derived.BigQuiet
namespace Go.Proofs.Ytfnhlallfgfkkaa
open Go.RowKit
set_option linter.unusedVariables false
set_option linter.unusedSimpArgs false

theorem u64s_get {xs : List Int} {k : Nat} {u : Value} (h : (u64s xs)[k]? = some u) : ∃ x, u = .int .u64 x ∧ xs[k]? = some x := by
  simp only [u64s, List.getElem?_map, Option.map_eq_some_iff] at h
  obtain ⟨x, hx, rfl⟩ := h
  exact ⟨x, rfl, hx⟩
theorem u64s_len (xs : List Int) : (u64s xs).length = xs.length := by simp [u64s]

set_option maxHeartbeats 1000000 in
theorem same_any (A A' : Option Addr) (xs ys : List Int) (c c' : Nat) (w : World) (hx : xs.length ≤ maxLen) (hy : ys.length ≤ maxLen) (hA : Sl w w.heap.size 1 A xs.length (u64s xs)) (hA' : Sl w w.heap.size 1 A' ys.length (u64s ys)) :
    Calls Try.prog 11 #[.slice A xs.length c, .slice A' ys.length c'] w fun e w' => e = .returned (.bool (decide (xs = ys))) ∧ Below w.heap.size w w' := by
  unfold maxLen at hx hy
  have HA := Lib.hid hA
  have HA' := Lib.hid hA'
  clear hA hA'
  by_cases hlen : xs.length = ys.length
  · have HL := Lib.hid hlen
    have e1 : ((xs.length : Int) == (ys.length : Int)) = true := by simp; omega
    have e2 : ((xs.length : Int) != (ys.length : Int)) = false := by simp; omega
    clear hlen
    go_enter Try.func11, Try.ntmps11
    go_wp2_with fail
    clear e1 e2
    go_loopw [5] (fun i wr => ∃ k : Nat, k ≤ xs.length ∧ i = .int .i64 k ∧ xs.take k = ys.take k ∧ Below w.heap.size w wr) (fun i _ => xs.length - (intOf i).toNat)
    case atStart => exact ⟨0, by omega, rfl, by simp, Below.refl _ _⟩
    case round =>
      obtain ⟨k, hk, rfl, ht, hbel⟩ := hrel
      have hz := hbel.size
      have HT := Lib.hid ht
      clear ht
      by_cases hlt : k < xs.length
      · have hlt' : k < ys.length := by have := HL.out; omega
        obtain ⟨b, off, u, rfl, hb, hc, hu⟩ := (HA.out.below hbel).one hlt
        obtain ⟨b', off', u', rfl, hb', hc', hu'⟩ := (HA'.out.below hbel).one hlt'
        obtain ⟨x, rfl, hxk⟩ := u64s_get hu
        obtain ⟨y, rfl, hyk⟩ := u64s_get hu'
        have HX := Lib.hid (And.intro hxk hyk)
        clear hu hu' hxk hyk
        by_cases hxy : x = y
        · subst hxy
          have e3 : (x != x) = false := by simp
          have e4 : (x == x) = true := by simp
          go_wp2_with fail
          go_quiet (fail)
          go_wp2_with fail
          go_roundw
          case rel => exact ⟨k + 1, by omega, by go_num, by rw [take_at HX.out.1, take_at HX.out.2, HT.out], (by (first | assumption | (repeat (first | exact Below.refl _ _ | assumption | apply Below.drew | apply below_drewN | (refine Below.setCell ?_ (by (try simp) <;> omega) _) | (refine Below.alloc ?_ (by (try simp) <;> omega) _)))))⟩
          case measure => simp [intOf]; omega
        · have e3 : (x != y) = true := by simpa using hxy
          have e4 : (x == y) = false := by simpa using hxy
          have HN := Lib.hid hxy
          clear hxy
          go_wp2_with fail
          go_quiet (fail)
          go_wp2_with fail
          go_ret
          refine ⟨ret_bool ?_, (by (first | assumption | (repeat (first | exact Below.refl _ _ | assumption | apply Below.drew | apply below_drewN | (refine Below.setCell ?_ (by (try simp) <;> omega) _) | (refine Below.alloc ?_ (by (try simp) <;> omega) _)))))⟩
          symm
          rw [decide_eq_false_iff_not]
          rintro rfl
          have := HX.out.1.symm.trans HX.out.2
          injection this with this
          exact HN.out this
      · obtain rfl : k = xs.length := by omega
        go_wp2_with fail
        go_ret
        refine ⟨ret_bool ?_, (by (first | assumption | (repeat (first | exact Below.refl _ _ | assumption | apply Below.drew | apply below_drewN | (refine Below.setCell ?_ (by (try simp) <;> omega) _) | (refine Below.alloc ?_ (by (try simp) <;> omega) _)))))⟩
        symm
        have := HT.out
        rw [List.take_length, HL.out, List.take_length] at this
        simpa using this
  · have e1 : ((xs.length : Int) == (ys.length : Int)) = false := by simp; omega
    have e2 : ((xs.length : Int) != (ys.length : Int)) = true := by simp; omega
    have HL := Lib.hid hlen
    clear hlen
    go_enter Try.func11, Try.ntmps11
    go_wp2_with fail
    go_ret
    refine ⟨ret_bool ?_, (by (first | assumption | (repeat (first | exact Below.refl _ _ | assumption | apply Below.drew | apply below_drewN | (refine Below.setCell ?_ (by (try simp) <;> omega) _) | (refine Below.alloc ?_ (by (try simp) <;> omega) _)))))⟩
    symm
    rw [decide_eq_false_iff_not]
    rintro rfl
    exact HL.out rfl
end Go.Proofs.Ytfnhlallfgfkkaa
