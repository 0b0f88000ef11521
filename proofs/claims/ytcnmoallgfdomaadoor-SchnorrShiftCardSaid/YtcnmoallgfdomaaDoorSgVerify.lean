/- What this text proves: the contract of Verify. The conditions are how the message lies in memory, that the numbers fit, and that the package's table is as its text lays it. -/
import Derived.Test.YtcnmoallgfdomaaDoorSgChal
import Derived.Test.YtcnmoallgfdomaaDoorSgIn
import Derived.Test.YtcnmoallgfdomaaDoorQuiet
namespace Go.Proofs.YtcnmoallgfdomaaDoor
open Go.RowKit
set_option linter.unusedVariables false
set_option linter.unusedSimpArgs false

theorem beq_cast (p q : Nat) : ((p : Int) == (q : Int)) = decide (p = q) := by
  by_cases h : p = q
  · simp [h]
  · have : ¬ (p : Int) = (q : Int) := by omega
    rw [decide_eq_false h]
    simp [this]
def verF (key : Nat) (m : List UInt8) (R S : Nat) : Bool := inR key && (inR R && (decide (S < QQ) && decide (37 ^ S % PP = R * (key ^ chal R key m % PP) % PP)))
attribute [local irreducible] digF numN
set_option maxRecDepth 100000 in
set_option maxHeartbeats 4000000 in
theorem verify_any (key R S : Nat) (A : Option Addr) (m : List UInt8) (c : Nat) (w : World) (hr : Roots w) (h0 : 2 < w.heap.size) (hkn : key < 18446744073709551616) (hRn : R < 18446744073709551616) (hSn : S < 18446744073709551616) (hg : Part.good w (A, c, m)) :
    Calls Tryd.prog 8 #[.int .u64 key, .slice A m.length c, .agg #[.int .u64 R, .int .u64 S]] w fun e w' => e = .returned (.bool (verF key m R S)) ∧ Below w.heap.size w w' := by
  have HR := Lib.hid hr
  have HG := Lib.hid hg
  clear hr hg
  obtain ⟨V, hV⟩ : ∃ V, verF key m R S = V := ⟨_, rfl⟩
  have HV := Lib.hid hV
  rw [hV]
  clear hV
  have B1 := Lib.hid (Bk.new w 25 #[.int .u64 R, .int .u64 S])
  have L1 : Hid (Below w.heap.size w (w.alloc (.cells #[.int .u64 R, .int .u64 S] 25))) := Lib.hid (by (first | assumption | (repeat (first | exact Below.refl _ _ | assumption | apply Below.drew | apply below_drewN | (refine Below.setCell ?_ (by (try simp) <;> omega) _) | (refine Below.alloc ?_ (by (try simp) <;> omega) _)))))
  go_enter Tryd.func8, Tryd.ntmps8
  go_upto_region 1 with fail
  obtain ⟨w1, hw1⟩ : ∃ W, w.alloc (.cells #[.int .u64 R, .int .u64 S] 25) = W := ⟨_, rfl⟩
  rw [hw1] at B1 L1 ⊢
  obtain ⟨gs, hgs⟩ : ∃ x, w.heap.size = x := ⟨_, rfl⟩
  rw [hgs] at B1 ⊢
  have HGS := Lib.hid hgs
  clear hw1 hgs
  have c0 := B1.out.cell 0
  have c1 := B1.out.cell 1
  have I1 := Lib.hid (in_any key w1 hkn)
  have I2 := Lib.hid (in_any R w1 hRn)
  cases h1 : inR key
  · rw [h1] at I1
    have hv : V = false := by rw [← HV.out]; simp [verF, h1]
    subst hv
    clear h1
    go_wp2_with fail
    with_reducible refine I1.out.mono ?_
    rintro e w2 ⟨rfl, rfl⟩
    go_wp2_with fail
    go_ret
    exact ⟨rfl, L1.out⟩
  rw [h1] at I1
  cases h2 : inR R
  · rw [h2] at I2
    have hv : V = false := by rw [← HV.out]; simp [verF, h2]
    subst hv
    clear h1 h2
    go_wp2_with fail
    with_reducible refine I1.out.mono ?_
    rintro e w2 ⟨rfl, rfl⟩
    go_wp2_with fail
    with_reducible refine I2.out.mono ?_
    rintro e w2 ⟨rfl, rfl⟩
    go_wp2_with fail
    go_ret
    exact ⟨rfl, L1.out⟩
  rw [h2] at I2
  by_cases h3 : S < QQ
  · have t3 : decide ((2305843009213693950 : Int) ≤ (S : Int)) = false := by unfold QQ at h3; simp; omega
    have hv : V = decide (37 ^ S % PP = R * (key ^ chal R key m % PP) % PP) := by rw [← HV.out]; simp [verF, h1, h2, h3]
    clear h1 h2 h3
    have hch : chal R key m < QQ := numN_lt _
    have hchn : chal R key m < 18446744073709551616 := Nat.lt_trans hch (by decide)
    have Q1 := Lib.hid fun (x : BW w1) => power_at 37 S 37 S rfl rfl x.val (by decide) hSn
    have Q2 := Lib.hid fun (x : BW w1) => challenge_any R key A m c x.val (HR.out.below (L1.out.trans (x.below.mono L1.out.size)) h0) (Nat.lt_of_lt_of_le h0 (L1.out.trans (x.below.mono L1.out.size)).size) hRn hkn (HG.out.below (L1.out.trans (x.below.mono L1.out.size)))
    have Q3 := Lib.hid fun (x : BW w1) => power_at key (chal R key m : Nat) key (chal R key m) rfl rfl x.val hkn hchn
    obtain ⟨e1, he1⟩ : ∃ e, chal R key m = e := ⟨_, rfl⟩
    obtain ⟨p2, hp2⟩ : ∃ p, key ^ chal R key m % PP = p := ⟨_, rfl⟩
    have hp2n : p2 < 18446744073709551616 := by rw [← hp2]; exact Nat.lt_trans (Nat.mod_lt _ (by decide)) (by decide)
    have Q4 := Lib.hid fun (x : BW w1) => timesP R p2 x.val hRn hp2n
    obtain ⟨p1, hp1⟩ : ∃ p, 37 ^ S % PP = p := ⟨_, rfl⟩
    obtain ⟨p3, hp3⟩ : ∃ p, R * p2 % PP = p := ⟨_, rfl⟩
    rw [hp1] at Q1 hv
    rw [hp2] at Q3 hv
    rw [he1] at Q2 Q3
    rw [hp3] at Q4 hv
    have HVV := Lib.hid hv
    clear hv
    clear hch hchn he1 hp1 hp2 hp3
    have f0 : ∀ x : BW w1, x.val.cell? ⟨gs, 0, none⟩ = some (.int .u64 R) := fun x => x.cell c0 B1.out.lt
    have f1 : ∀ x : BW w1, x.val.cell? ⟨gs, 1, none⟩ = some (.int .u64 S) := fun x => x.cell c1 B1.out.lt
    go_wp2_with fail
    with_reducible refine I1.out.mono ?_
    rintro e w2 ⟨rfl, rfl⟩
    go_wp2_with fail
    with_reducible refine I2.out.mono ?_
    rintro e w2 ⟨rfl, rfl⟩
    go_upto_region 4 with fail
    refine wp_region_bw (by kernel_rfl) (by kernel_rfl) ?_
    go_big_quiet_step (fail)
    go_big_quiet_step (fail)
    go_big_quiet_step (exact quiet_bw _ (Q1.out _))
    go_big_quiet_step (fail)
    go_big_quiet_step (fail)
    go_big_quiet_step (fail)
    go_big_quiet_step (fail)
    go_big_quiet_step (fail)
    go_big_quiet_step (fail)
    go_big_quiet_step (fail)
    go_big_quiet_step (exact quiet_bw _ (Q2.out _))
    go_big_quiet_step (exact quiet_bw _ (Q3.out _))
    go_big_quiet_step (exact quiet_bw _ (Q4.out _))
    go_big_quiet_step (fail)
    go_big_quiet_step (fail)
    refine wpQuiet_nil ?_; intro _ hwq; obtain ⟨⟨wq, hbq⟩, hwq'⟩ := hwq; subst hwq'
    go_wp2_with fail
    go_ret
    exact ⟨ret_bool (by rw [HVV.out]; exact beq_cast _ _), L1.out.trans (hbq.mono L1.out.size)⟩
  · have t3 : decide ((2305843009213693950 : Int) ≤ (S : Int)) = true := by unfold QQ at h3; simp; omega
    have hv : V = false := by rw [← HV.out]; simp [verF, h3]
    subst hv
    clear h1 h2 h3
    go_wp2_with fail
    with_reducible refine I1.out.mono ?_
    rintro e w2 ⟨rfl, rfl⟩
    go_wp2_with fail
    with_reducible refine I2.out.mono ?_
    rintro e w2 ⟨rfl, rfl⟩
    go_wp2_with fail
    go_ret
    exact ⟨rfl, L1.out⟩
end Go.Proofs.YtcnmoallgfdomaaDoor
