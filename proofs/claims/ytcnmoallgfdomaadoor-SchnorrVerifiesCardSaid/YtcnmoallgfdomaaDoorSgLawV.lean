/- What this text proves: the contract of the law SchnorrVerifies. The conditions are how the arguments lie in memory, and that the package's table is as its text lays it. -/
import Derived.Test.YtcnmoallgfdomaaDoorSgRVerify
namespace Go.Proofs.YtcnmoallgfdomaaDoor
open Go.RowKit
set_option linter.unusedVariables false
set_option linter.unusedSimpArgs false

attribute [local irreducible] digF numN verF
set_option maxRecDepth 100000 in
set_option maxHeartbeats 4000000 in
theorem verifies_any (key R S : Nat) (A : Option Addr) (m : List UInt8) (c : Nat) (w : World) (hr : Roots w) (h0 : 2 < w.heap.size) (hkn : key < 18446744073709551616) (hRn : R < 18446744073709551616) (hSn : S < 18446744073709551616) (hg : Part.good w (A, c, m)) :
    Calls Tryd.prog 3 #[.int .u64 key, .slice A m.length c, .agg #[.int .u64 R, .int .u64 S]] w fun e w' => e = .returned (.bool true) ∧ Below w.heap.size w w' := by
  have HR := Lib.hid hr
  have HG := Lib.hid hg
  clear hr hg
  have B1 := Lib.hid (Bk.new w 25 #[.int .u64 R, .int .u64 S])
  have L1 : Hid (Below w.heap.size w (w.alloc (.cells #[.int .u64 R, .int .u64 S] 25))) := Lib.hid (by (first | assumption | (repeat (first | exact Below.refl _ _ | assumption | apply Below.drew | apply below_drewN | (refine Below.setCell ?_ (by (try simp) <;> omega) _) | (refine Below.alloc ?_ (by (try simp) <;> omega) _)))))
  go_enter Tryd.func3, Tryd.ntmps3
  go_upto_region 1 with fail
  obtain ⟨w1, hw1⟩ : ∃ W, w.alloc (.cells #[.int .u64 R, .int .u64 S] 25) = W := ⟨_, rfl⟩
  rw [hw1] at B1 L1 ⊢
  obtain ⟨gs, hgs⟩ : ∃ x, w.heap.size = x := ⟨_, rfl⟩
  rw [hgs] at B1 ⊢
  clear hw1 hgs
  by_cases hbig : 2000 < m.length
  · have e1 : decide ((2000 : Int) < (m.length : Int)) = true := decide_eq_true (by omega)
    go_wp2_with fail
    with_reducible refine (alive_any w1).mono ?_
    rintro e w2 ⟨rfl, hb⟩
    go_wp2_with fail
    go_ret
    exact ⟨rfl, L1.out.trans (hb.mono L1.out.size)⟩
  have e1 : decide ((2000 : Int) < (m.length : Int)) = false := decide_eq_false (by omega)
  have hml : m.length ≤ 2000 := by omega
  have Q1 := Lib.hid fun (x : BW w1) => alive_any x.val
  have Q2 := Lib.hid fun (x : BW w1) => verify_any key R S A m c x.val (HR.out.below (L1.out.trans (x.below.mono L1.out.size)) h0) (Nat.lt_of_lt_of_le h0 (L1.out.trans (x.below.mono L1.out.size)).size) hkn hRn hSn (HG.out.below (L1.out.trans (x.below.mono L1.out.size)))
  have Q3 := Lib.hid fun (x : BW w1) => rverify_any key R S A m c x.val hml hkn hRn hSn (HG.out.below (L1.out.trans (x.below.mono L1.out.size)))
  obtain ⟨V, hV⟩ : ∃ V, verF key m R S = V := ⟨_, rfl⟩
  rw [hV] at Q2 Q3
  have c0 : ∀ x : BW w1, x.val.cell? ⟨gs, 0, none⟩ = some (.int .u64 R) := fun x => x.cell (B1.out.cell 0) B1.out.lt
  have c1 : ∀ x : BW w1, x.val.cell? ⟨gs, 1, none⟩ = some (.int .u64 S) := fun x => x.cell (B1.out.cell 1) B1.out.lt
  clear hV hml hbig
  go_upto_region 3 with fail
  refine wp_region_bw (by kernel_rfl) (by kernel_rfl) ?_
  go_big_quiet_step (exact quiet_bw _ (Q1.out _))
  go_big_quiet_step (fail)
  go_big_quiet_step (fail)
  go_big_quiet_step (fail)
  go_big_quiet_step (fail)
  go_big_quiet_step (exact quiet_bw _ (Q2.out _))
  go_big_quiet_step (fail)
  go_big_quiet_step (fail)
  go_big_quiet_step (fail)
  go_big_quiet_step (exact quiet_bw _ (Q3.out _))
  trace_state
  go_big_quiet_step (fail)
  go_big_quiet_step (fail)
  go_big_quiet_step (fail)
  refine wpQuiet_nil ?_; intro _ hwq; obtain ⟨⟨wq, hbq⟩, hwq'⟩ := hwq; subst hwq'
  go_wp2_with fail
  go_ret
  exact ⟨rfl, L1.out.trans (hbq.mono L1.out.size)⟩
theorem verifies_walk (key : Nat) (hkn : key < 18446744073709551616) (A : Option Addr) (m : List UInt8) (c : Nat) (hl : m.length ≤ c) (hc : c ≤ maxLen) {w : World} (hA : Sl w w.heap.size 1 A m.length (bts m)) (R S : Nat) (hRn : R < 18446744073709551616) (hSn : S < 18446744073709551616) (_ : World) (hr : Roots w ∧ 2 < w.heap.size) :
    Calls Tryd.prog 3 #[.int .u64 key, .slice A m.length c, .agg #[.int .u64 R, .int .u64 S]] w fun e w' => e = .returned (.bool true) ∧ Below w.heap.size w w' := verifies_any key R S A m c w hr.1 hr.2 hkn hRn hSn ⟨hl, hc, hA⟩
end Go.Proofs.YtcnmoallgfdomaaDoor
