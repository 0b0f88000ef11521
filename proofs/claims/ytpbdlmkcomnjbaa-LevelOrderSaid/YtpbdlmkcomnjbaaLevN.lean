/- What this text proves: the contract of layer 1's Above. The conditions are that bits are bits. -/
import Derived.Test.YtpbdlmkcomnjbaaLevM
namespace Go.Proofs.Ytpbdlmkcomnjbaa
open Go.RowKit
set_option linter.unusedVariables false
set_option linter.unusedSimpArgs false

/-- Is a number above a whole one? -/
def abvF (b : Nat) (n : Int) : Bool := if nanB b then false else if rg b = infR then !sg b else decide (n * big < sval b)
theorem val_e63 : val 4890909195324358656 = big * 9223372036854775808 := by
  have h1 : mg 4890909195324358656 = 2 ^ 52 := by decide
  have h2 : 52 + pl 4890909195324358656 = tho + 63 := by decide
  have h3 : (9223372036854775808 : Nat) = 2 ^ 63 := by decide
  unfold val
  rw [h1, pow_two_add, h2, h3, big_pow]
theorem sval_e63 : sval 4890909195324358656 = 9223372036854775808 * (big : Int) := by
  have h : sg 4890909195324358656 = false := by decide
  have h2 : rg 4890909195324358656 = 4890909195324358656 := by decide
  unfold sval
  rw [h, h2, val_e63]
  rw [if_neg (by decide), show ((big * 9223372036854775808 : Nat) : Int) = (big : Int) * 9223372036854775808 from Int.natCast_mul _ _, Int.mul_comm]
theorem sval_m63 : sval 14114281232179134464 = -9223372036854775808 * (big : Int) := by
  have h : sg 14114281232179134464 = true := by decide
  have h2 : rg 14114281232179134464 = 4890909195324358656 := by decide
  unfold sval
  rw [h, h2, val_e63]
  rw [if_pos rfl, show ((big * 9223372036854775808 : Nat) : Int) = (big : Int) * 9223372036854775808 from Int.natCast_mul _ _, Int.mul_comm, Int.neg_mul]
theorem sval_le_iff (a b : Nat) : sval a ≤ sval b ↔ key a ≤ key b := by
  have := sval_lt_iff b a
  omega
theorem floor_call (b : Nat) (hb : b < 18446744073709551616) (h : rg b < infR) (z : Nat) (hz : Ieee.double.write ((Ieee.double.read b).integral .down) = z) (w : World) : (callFunc 43 #[.float .f64 b]).run Try.prog w = .ok (.value (.float .f64 z)) w := by
  rw [run_callFunc_extern (e := Extern.MathFloor.toIntegral "math.archFloor" .down) Try.func43 (by kernel_rfl) (by kernel_rfl) (by kernel_rfl) (by kernel_rfl)]
  have hd : FloatKind.f64.decode b = .number (sg b) (mg (rg b)) (-1074 + (pl (rg b) : Int)) := read_num hb h
  rw [read_num hb h] at hz
  have hz2 : FloatKind.f64.encode ((Ieee.Datum.number (sg b) (mg (rg b)) (-1074 + (pl (rg b) : Int))).integral .down) = z := hz
  have he : Extern.MathFloor.toIntegral "math.archFloor" .down #[.float .f64 b] = pure (.float .f64 z) := by
    show Extern.MathFloor.toIntegral.match_1 (fun _ => Sem Value) (FloatKind.f64.decode b) _ _ = _
    rw [hd]
    exact congrArg (fun x => (pure (.float .f64 x) : Sem Value)) hz2
  rw [he]
  rfl
theorem Floor_any (b : Nat) (hb : b < 18446744073709551616) (h : rg b < infR) (z : Nat) (hz : Ieee.double.write ((Ieee.double.read b).integral .down) = z) (w : World) : Calls Try.prog 35 #[.float .f64 b] w fun e w' => e = .returned (.float .f64 z) ∧ w' = w := by
  have hc := floor_call b hb h z hz
  clear hz h
  go_enter Try.func35, Try.ntmps35
  go_wp2_with fail
  go_ret
  exact ⟨rfl, rfl⟩
theorem inf_nan {b : Nat} (h : rg b = infR) : nanB b = false := by unfold nanB; rw [h]; decide
set_option maxHeartbeats 1000000 in
theorem above_any (b : Nat) (n : Int) (hb : b < 18446744073709551616) (hn : -9223372036854775808 ≤ n ∧ n ≤ 9223372036854775807) (w : World) : Calls Try.prog 20 #[.float .f64 b, .int .i64 n] w fun e w' => e = .returned (.bool (abvF b n)) ∧ w' = w := by
  have g1 := f_geq (t := 22) (a := b) (b := 4890909195324358656) hb (by decide)
  have g2 := f_geq (t := 22) (a := b) (b := 14114281232179134464) hb (by decide)
  have n1 : nanB 4890909195324358656 = false := by decide
  have n2 : nanB 14114281232179134464 = false := by decide
  have hbp := big_pos
  cases nb : nanB b with
  | true =>
    have e1 : leF 4890909195324358656 b = false := by unfold leF; rw [nb, Bool.or_true]; rfl
    have e2 : leF 14114281232179134464 b = false := by unfold leF; rw [nb, Bool.or_true]; rfl
    have ea : abvF b n = false := by unfold abvF; rw [nb]; rfl
    rw [e1] at g1
    rw [e2] at g2
    rw [ea]
    clear e1 e2 ea nb n1 n2 hn hb hbp
    go_enter Try.func20, Try.ntmps20
    go_wp2_with fail
    go_ret
    exact ⟨rfl, rfl⟩
  | false =>
    have hle := nn_le nb
    have e1 : leF 4890909195324358656 b = decide (key 4890909195324358656 ≤ key b) := by unfold leF; rw [nb, n1]; rfl
    have e2 : leF 14114281232179134464 b = decide (key 14114281232179134464 ≤ key b) := by unfold leF; rw [nb, n2]; rfl
    rw [e1] at g1
    rw [e2] at g2
    clear e1 e2
    by_cases hi : rg b = infR
    · have ea : abvF b n = !sg b := by unfold abvF; rw [nb, hi]; rfl
      rw [ea]
      cases hs : sg b with
      | false =>
        have hk : key b = 9218868437227405312 := by unfold key; rw [hs, hi]; rfl
        rw [hk, show decide (key 4890909195324358656 ≤ 9218868437227405312) = true from by decide] at g1
        rw [show (!false) = true from rfl]
        clear hk hs ea hi hle n1 n2 nb g2 hn hb hbp
        go_enter Try.func20, Try.ntmps20
        go_wp2_with fail
        go_ret
        exact ⟨rfl, rfl⟩
      | true =>
        have hk : key b = -9218868437227405312 := by unfold key; rw [hs, hi]; rfl
        rw [hk, show decide (key 4890909195324358656 ≤ -9218868437227405312) = false from by decide] at g1
        rw [hk, show decide (key 14114281232179134464 ≤ -9218868437227405312) = false from by decide] at g2
        rw [show (!true) = false from rfl]
        clear hk hs ea hi hle n1 n2 nb hn hb hbp
        go_enter Try.func20, Try.ntmps20
        go_wp2_with fail
        go_ret
        exact ⟨rfl, rfl⟩
    · have hfin : rg b < infR := by omega
      have ea : abvF b n = decide (n * big < sval b) := by unfold abvF; rw [nb, if_neg (by decide), if_neg hi]
      rw [ea]
      by_cases h1 : key 4890909195324358656 ≤ key b
      · rw [decide_eq_true h1] at g1
        have h2 := (sval_le_iff _ _).2 h1
        rw [sval_e63] at h2
        have h3 : n * (big : Int) < sval b := by
          have : n * (big : Int) ≤ 9223372036854775807 * (big : Int) := Int.mul_le_mul_of_nonneg_right hn.2 (by omega)
          omega
        rw [decide_eq_true h3]
        clear h1 h2 h3 ea hi hle n1 n2 nb g2 hn hb hbp hfin
        go_enter Try.func20, Try.ntmps20
        go_wp2_with fail
        go_ret
        exact ⟨rfl, rfl⟩
      · rw [decide_eq_false h1] at g1
        have h1' : sval b < sval 4890909195324358656 := (sval_lt_iff _ _).2 (by omega)
        rw [sval_e63] at h1'
        by_cases h2 : key 14114281232179134464 ≤ key b
        · rw [decide_eq_true h2] at g2
          have h2' := (sval_le_iff _ _).2 h2
          rw [sval_m63] at h2'
          obtain ⟨r, k, hr, hw, ht, hv, hk1, hk2⟩ := floor_word b hb hfin
          have hit : infR < top := by decide
          obtain ⟨w1, w2, w3⟩ := wordF_lt (s := sg b) (by omega : r < top)
          have HF := Lib.hid (Floor_any b hb hfin _ hw)
          obtain ⟨z, hz⟩ : ∃ z, wordF (sg b) r = z := ⟨_, rfl⟩
          rw [hz] at HF ht hv w1 w2
          have nz : nanB z = false := by unfold nanB; rw [w2]; exact decide_eq_false (by omega)
          have g3 := f_gtr (t := 22) (a := b) (b := z) hb w1
          rw [lt_nn nz nb] at g3
          have hB : (0 : Int) < (big : Int) := by omega
          have k1 : -9223372036854775808 ≤ k := by
            rcases Int.lt_or_le k (-9223372036854775808) with h | h
            · have : (k + 1) * (big : Int) ≤ -9223372036854775808 * (big : Int) := Int.mul_le_mul_of_nonneg_right (by omega) (by omega)
              omega
            · exact h
          have k2 : k ≤ 9223372036854775807 := by
            rcases Int.lt_or_le 9223372036854775807 k with h | h
            · have : 9223372036854775808 * (big : Int) ≤ k * (big : Int) := Int.mul_le_mul_of_nonneg_right (by omega) (by omega)
              omega
            · exact h
          have hcv : ∀ w, (convert 22 3 (.float .f64 z)).run Try.prog w = .ok (.int .i64 k) w := fun w => by
            refine run_convert_float_int w 22 3 .f64 .i64 z k (by rw [Try.underlying22]; rfl) Try.underlying3 ?_
            unfold floatToIntVal
            have ht2 : (FloatKind.f64.decode z).toInt .zero = some k := ht
            rw [ht2]
            simp only
            rw [if_pos ⟨by show (-9223372036854775808 : Int) ≤ _; omega, by show _ ≤ (9223372036854775807 : Int); omega⟩]
          have hgt : key z < key b ↔ k * (big : Int) < sval b := by rw [← sval_lt_iff, hv]
          have hres : decide (n * (big : Int) < sval b) = (decide (n < k) || (k == n && decide (key z < key b))) := by
            by_cases c1 : n < k
            · rw [decide_eq_true c1, Bool.true_or]
              refine decide_eq_true ?_
              have : (n + 1) * (big : Int) ≤ k * (big : Int) := Int.mul_le_mul_of_nonneg_right (by omega) (by omega)
              rw [Int.add_mul] at this
              omega
            · rw [decide_eq_false c1, Bool.false_or]
              by_cases c2 : k = n
              · subst c2
                rw [beq_self_eq_true, Bool.true_and, decide_eq_decide]
                exact hgt.symm
              · rw [beq_eq_false_iff_ne.2 c2, Bool.false_and]
                refine decide_eq_false ?_
                have : (k + 1) * (big : Int) ≤ n * (big : Int) := Int.mul_le_mul_of_nonneg_right (by omega) (by omega)
                omega
          rw [hres]
          obtain ⟨kz, hkz⟩ : ∃ x, key z = x := ⟨_, rfl⟩
          obtain ⟨kb, hkb⟩ : ∃ x, key b = x := ⟨_, rfl⟩
          rw [hkz, hkb] at g3
          rw [hkz, hkb]
          clear hres hgt hkz hkb ht hv hw hz w1 w2 w3 nz hk1 hk2 h1 h1' h2 h2' ea hi hle n1 n2 nb hfin hB hbp hr hit
          by_cases c1 : n < k
          · rw [decide_eq_true c1, Bool.true_or]
            have d1 : decide (n < k) = true := decide_eq_true c1
            clear hn hb
            go_enter Try.func20, Try.ntmps20
            go_wp2_with fail
            with_reducible refine (HF.out _).mono ?_
            rintro e w1 ⟨rfl, rfl⟩
            go_wp2_with fail
            go_ret
            exact ⟨rfl, rfl⟩
          · rw [decide_eq_false c1, Bool.false_or]
            have d1 : decide (n < k) = false := decide_eq_false c1
            by_cases c2 : k = n
            · subst c2
              rw [beq_self_eq_true, Bool.true_and]
              clear hn hb c1
              go_enter Try.func20, Try.ntmps20
              go_wp2_with fail
              with_reducible refine (HF.out _).mono ?_
              rintro e w1 ⟨rfl, rfl⟩
              go_wp2_with fail
              go_ret
              exact ⟨rfl, rfl⟩
            · rw [beq_eq_false_iff_ne.2 c2, Bool.false_and]
              have d2 : (k == n) = false := beq_eq_false_iff_ne.2 c2
              clear hn hb c1
              go_enter Try.func20, Try.ntmps20
              go_wp2_with fail
              with_reducible refine (HF.out _).mono ?_
              rintro e w1 ⟨rfl, rfl⟩
              go_wp2_with fail
              go_ret
              exact ⟨rfl, rfl⟩
        · rw [decide_eq_false h2] at g2
          have h2' : sval b < sval 14114281232179134464 := (sval_lt_iff _ _).2 (by omega)
          rw [sval_m63] at h2'
          have h3 : ¬ n * (big : Int) < sval b := by
            have : -9223372036854775808 * (big : Int) ≤ n * (big : Int) := Int.mul_le_mul_of_nonneg_right hn.1 (by omega)
            omega
          rw [decide_eq_false h3]
          clear h1 h1' h2 h2' h3 ea hi hle n1 n2 nb hn hb hbp hfin
          go_enter Try.func20, Try.ntmps20
          go_wp2_with fail
          go_ret
          exact ⟨rfl, rfl⟩
end Go.Proofs.Ytpbdlmkcomnjbaa
