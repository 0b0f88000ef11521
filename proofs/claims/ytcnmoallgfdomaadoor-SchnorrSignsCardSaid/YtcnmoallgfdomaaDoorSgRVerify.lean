/- What this text proves: the contract of the reference's Verify. The conditions are how the message lies in memory and that the numbers fit. -/
import Derived.Test.YtcnmoallgfdomaaDoorSgVerify
namespace Go.Proofs.YtcnmoallgfdomaaDoor
open Go.RowKit
set_option linter.unusedVariables false
set_option linter.unusedSimpArgs false

theorem rtimesP_at (ai bi : Int) (a b : Nat) (h1 : ai = a) (h2 : bi = b) (w : World) (ha : a < 18446744073709551616) (hb : b < 18446744073709551616) :
    Calls Tryd.prog 19 #[.int .u64 ai, .int .u64 bi, .int .u64 2305843009213693951] w fun e w' => e = .returned (.int .u64 ((a * b % PP : Nat) : Int)) ∧ w = w' := by
  subst h1 h2
  exact rtimesP a b w ha hb
attribute [local irreducible] digF numN
set_option maxRecDepth 100000 in
set_option maxHeartbeats 4000000 in
theorem rverify_any (key R S : Nat) (A : Option Addr) (m : List UInt8) (c : Nat) (w : World) (hml : m.length ≤ 2000) (hkn : key < 18446744073709551616) (hRn : R < 18446744073709551616) (hSn : S < 18446744073709551616) (hg : Part.good w (A, c, m)) :
    Calls Tryd.prog 9 #[.int .u64 key, .slice A m.length c, .agg #[.int .u64 R, .int .u64 S]] w fun e w' => e = .returned (.bool (verF key m R S)) ∧ Below w.heap.size w w' := by
  have HG := Lib.hid hg
  have HML := Lib.hid hml
  clear hg hml
  obtain ⟨V, hV⟩ : ∃ V, verF key m R S = V := ⟨_, rfl⟩
  have HV := Lib.hid hV
  rw [hV]
  clear hV
  have B1 := Lib.hid (Bk.new w 25 #[.int .u64 R, .int .u64 S])
  have L1 : Hid (Below w.heap.size w (w.alloc (.cells #[.int .u64 R, .int .u64 S] 25))) := Lib.hid (by (first | assumption | (repeat (first | exact Below.refl _ _ | assumption | apply Below.drew | apply below_drewN | (refine Below.setCell ?_ (by (try simp) <;> omega) _) | (refine Below.alloc ?_ (by (try simp) <;> omega) _)))))
  go_enter Tryd.func9, Tryd.ntmps9
  go_upto_region 1 with fail
  obtain ⟨w1, hw1⟩ : ∃ W, w.alloc (.cells #[.int .u64 R, .int .u64 S] 25) = W := ⟨_, rfl⟩
  rw [hw1] at B1 L1 ⊢
  obtain ⟨gs, hgs⟩ : ∃ x, w.heap.size = x := ⟨_, rfl⟩
  rw [hgs] at B1 ⊢
  clear hw1 hgs
  have c0 := B1.out.cell 0
  have c1 := B1.out.cell 1
  by_cases h1 : key < 1
  · have t1 : binOp .lss 22 (.int .u64 (key : Int)) (.int .u64 1) = pure (.bool true) := by rw [binOp_lss, decide_eq_true (by omega)]
    have hv : V = false := by
      rw [← HV.out]
      have : inR key = false := by unfold inR PP; exact decide_eq_false (by omega)
      simp [verF, this]
    subst hv
    clear h1
    go_wp2_with fail
    go_ret
    exact ⟨rfl, L1.out⟩
  by_cases h2 : 2305843009213693951 ≤ key
  · have t1 : binOp .lss 22 (.int .u64 (key : Int)) (.int .u64 1) = pure (.bool false) := by rw [binOp_lss, decide_eq_false (by omega)]
    have t2 : binOp .geq 22 (.int .u64 (key : Int)) (.int .u64 2305843009213693951) = pure (.bool true) := by rw [binOp_geq, decide_eq_true (by omega)]
    have hv : V = false := by
      rw [← HV.out]
      have : inR key = false := by unfold inR PP; exact decide_eq_false (by omega)
      simp [verF, this]
    subst hv
    clear h1 h2
    go_wp2_with fail
    go_ret
    exact ⟨rfl, L1.out⟩
  by_cases h3 : R < 1
  · have t1 : binOp .lss 22 (.int .u64 (key : Int)) (.int .u64 1) = pure (.bool false) := by rw [binOp_lss, decide_eq_false (by omega)]
    have t2 : binOp .geq 22 (.int .u64 (key : Int)) (.int .u64 2305843009213693951) = pure (.bool false) := by rw [binOp_geq, decide_eq_false (by omega)]
    have t3 : binOp .lss 22 (.int .u64 (R : Int)) (.int .u64 1) = pure (.bool true) := by rw [binOp_lss, decide_eq_true (by omega)]
    have hv : V = false := by
      rw [← HV.out]
      have : inR R = false := by unfold inR PP; exact decide_eq_false (by omega)
      simp [verF, this]
    subst hv
    clear h1 h2 h3
    go_wp2_with fail
    go_ret
    exact ⟨rfl, L1.out⟩
  by_cases h4 : 2305843009213693951 ≤ R
  · have t1 : binOp .lss 22 (.int .u64 (key : Int)) (.int .u64 1) = pure (.bool false) := by rw [binOp_lss, decide_eq_false (by omega)]
    have t2 : binOp .geq 22 (.int .u64 (key : Int)) (.int .u64 2305843009213693951) = pure (.bool false) := by rw [binOp_geq, decide_eq_false (by omega)]
    have t3 : binOp .lss 22 (.int .u64 (R : Int)) (.int .u64 1) = pure (.bool false) := by rw [binOp_lss, decide_eq_false (by omega)]
    have t4 : binOp .geq 22 (.int .u64 (R : Int)) (.int .u64 2305843009213693951) = pure (.bool true) := by rw [binOp_geq, decide_eq_true (by omega)]
    have hv : V = false := by
      rw [← HV.out]
      have : inR R = false := by unfold inR PP; exact decide_eq_false (by omega)
      simp [verF, this]
    subst hv
    clear h1 h2 h3 h4
    go_wp2_with fail
    go_ret
    exact ⟨rfl, L1.out⟩
  by_cases h5 : 2305843009213693950 ≤ S
  · have t1 : binOp .lss 22 (.int .u64 (key : Int)) (.int .u64 1) = pure (.bool false) := by rw [binOp_lss, decide_eq_false (by omega)]
    have t2 : binOp .geq 22 (.int .u64 (key : Int)) (.int .u64 2305843009213693951) = pure (.bool false) := by rw [binOp_geq, decide_eq_false (by omega)]
    have t3 : binOp .lss 22 (.int .u64 (R : Int)) (.int .u64 1) = pure (.bool false) := by rw [binOp_lss, decide_eq_false (by omega)]
    have t4 : binOp .geq 22 (.int .u64 (R : Int)) (.int .u64 2305843009213693951) = pure (.bool false) := by rw [binOp_geq, decide_eq_false (by omega)]
    have t5 : binOp .geq 22 (.int .u64 (S : Int)) (.int .u64 2305843009213693950) = pure (.bool true) := by rw [binOp_geq, decide_eq_true (by omega)]
    have hv : V = false := by
      rw [← HV.out]
      have : decide (S < QQ) = false := by unfold QQ; exact decide_eq_false (by omega)
      simp [verF, this]
    subst hv
    clear h1 h2 h3 h4 h5
    go_wp2_with fail
    go_ret
    exact ⟨rfl, L1.out⟩
  have t1 : binOp .lss 22 (.int .u64 (key : Int)) (.int .u64 1) = pure (.bool false) := by rw [binOp_lss, decide_eq_false (by omega)]
  have t2 : binOp .geq 22 (.int .u64 (key : Int)) (.int .u64 2305843009213693951) = pure (.bool false) := by rw [binOp_geq, decide_eq_false (by omega)]
  have t3 : binOp .lss 22 (.int .u64 (R : Int)) (.int .u64 1) = pure (.bool false) := by rw [binOp_lss, decide_eq_false (by omega)]
  have t4 : binOp .geq 22 (.int .u64 (R : Int)) (.int .u64 2305843009213693951) = pure (.bool false) := by rw [binOp_geq, decide_eq_false (by omega)]
  have t5 : binOp .geq 22 (.int .u64 (S : Int)) (.int .u64 2305843009213693950) = pure (.bool false) := by rw [binOp_geq, decide_eq_false (by omega)]
  have hv : V = decide (37 ^ S % PP = R * (key ^ chal R key m % PP) % PP) := by
    rw [← HV.out]
    have a1 : inR key = true := by unfold inR PP; exact decide_eq_true (by omega)
    have a2 : inR R = true := by unfold inR PP; exact decide_eq_true (by omega)
    have a3 : S < QQ := by unfold QQ; omega
    simp [verF, a1, a2, a3]
  clear h1 h2 h3 h4 h5
  have hchn : chal R key m < 18446744073709551616 := Nat.lt_trans (numN_lt _) (by decide)
  have Q2 := Lib.hid (rchallenge_any R key A m c w1 HML.out hRn hkn (HG.out.below L1.out))
  have P1 := Lib.hid fun W => rpower_at 37 S 37 S rfl rfl W (by decide) hSn
  have P3 := Lib.hid fun W => rpower_at key (chal R key m : Nat) key (chal R key m) rfl rfl W hkn hchn
  obtain ⟨e1, he1⟩ : ∃ e, chal R key m = e := ⟨_, rfl⟩
  obtain ⟨p2, hp2⟩ : ∃ p, key ^ chal R key m % PP = p := ⟨_, rfl⟩
  have hp2n : p2 < 18446744073709551616 := by rw [← hp2]; exact Nat.lt_trans (Nat.mod_lt _ (by decide)) (by decide)
  have P4 := Lib.hid fun W => rtimesP R p2 W hRn hp2n
  obtain ⟨p1, hp1⟩ : ∃ p, 37 ^ S % PP = p := ⟨_, rfl⟩
  obtain ⟨p3, hp3⟩ : ∃ p, R * p2 % PP = p := ⟨_, rfl⟩
  rw [hp1] at P1 hv
  rw [hp2] at P3 hv
  rw [he1] at Q2 P3
  rw [hp3] at P4 hv
  have HVV := Lib.hid hv
  clear hv hchn he1 hp1 hp2 hp3
  go_wp2_with fail
  with_reducible refine Q2.out.mono ?_
  rintro e w2 ⟨rfl, hb2⟩
  have B2 := Lib.hid (B1.out.below hb2 B1.out.lt)
  have L2 : Hid (Below w.heap.size w w2) := Lib.hid (L1.out.trans (hb2.mono L1.out.size))
  have f0 : ∀ x : BW w2, x.val.cell? ⟨gs, 0, none⟩ = some (.int .u64 R) := fun x => x.cell (B2.out.cell 0) B2.out.lt
  have f1 : ∀ x : BW w2, x.val.cell? ⟨gs, 1, none⟩ = some (.int .u64 S) := fun x => x.cell (B2.out.cell 1) B2.out.lt
  have Q1 := Lib.hid fun (x : BW w2) => (P1.out x.val).mono fun e w' ⟨h1, h2⟩ => (⟨h1, h2 ▸ Below.refl _ _⟩ : e = _ ∧ Below x.val.heap.size x.val w')
  have Q3 := Lib.hid fun (x : BW w2) => (P3.out x.val).mono fun e w' ⟨h1, h2⟩ => (⟨h1, h2 ▸ Below.refl _ _⟩ : e = _ ∧ Below x.val.heap.size x.val w')
  have Q4 := Lib.hid fun (x : BW w2) => (P4.out x.val).mono fun e w' ⟨h1, h2⟩ => (⟨h1, h2 ▸ Below.refl _ _⟩ : e = _ ∧ Below x.val.heap.size x.val w')
  clear hb2 c0 c1
  go_upto_region 4 with fail
  refine wp_region_bw (by kernel_rfl) (by kernel_rfl) ?_
  go_big_quiet_step (fail)
  go_big_quiet_step (fail)
  go_big_quiet_step (exact quiet_bw _ (Q1.out _))
  go_big_quiet_step (fail)
  go_big_quiet_step (fail)
  go_big_quiet_step (fail)
  go_big_quiet_step (fail)
  go_big_quiet_step (exact quiet_bw _ (Q3.out _))
  go_big_quiet_step (exact quiet_bw _ (Q4.out _))
  go_big_quiet_step (fail)
  go_big_quiet_step (fail)
  refine wpQuiet_nil ?_; intro _ hwq; obtain ⟨⟨wq, hbq⟩, hwq'⟩ := hwq; subst hwq'
  go_wp2_with fail
  go_ret
  exact ⟨ret_bool (by rw [HVV.out]; exact beq_cast _ _), L2.out.trans (hbq.mono L2.out.size)⟩
end Go.Proofs.YtcnmoallgfdomaaDoor
