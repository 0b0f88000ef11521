/- What this text proves: the statement SchnorrSums: for every base and every two exponents the law returns true and leaves its arguments as they were. No condition. -/
import Derived.Test.YtcnmoallgfdomaaRows
import Derived.Test.YtcnmoallgfdomaaOwn
import Derived.Test.YtcnmoallgfdomaaPowKeyRef
import Derived.Test.YtcnmoallgfdomaaFermat
import Derived.ProofKit
import Derived.OpenShut
import Derived.ChangeOld
namespace Go.Proofs.Ytcnmoallgfdomaa.schnorrSums
open Go.ChangeShapes Go.WideShapes Go.ChangeAt Go.RowKit
set_option linter.unusedVariables false
set_option linter.unusedSimpArgs false

/-- Back from a sum of exponents. -/
theorem back_mul (c a b : Nat) (hc : c % PP ≠ 0) : c ^ (a + b) % PP * ((c ^ b % PP) ^ (QQ - 1) % PP) % PP = c ^ a % PP := by
  have hQ := QQ_bd
  rw [← Nat.pow_mod, ← Nat.mul_mod, ← Nat.pow_mul, ← Nat.pow_add]
  have e : a + b + b * (QQ - 1) = QQ * b + a := by
    have h : b * QQ = b * (QQ - 1) + b := by
      rw [← Nat.mul_succ]
      congr 1
    rw [Nat.mul_comm QQ b, h]
    omega
  rw [e, Nat.pow_add, Nat.mul_mod]
  have h := pow_mod_mul c QQ PP b (by rw [fermat c hc, one_mod])
  rw [h, one_mod, Nat.one_mul, Nat.mod_mod]
theorem pow_zero_mod {c e : Nat} (hc : c % PP = 0) (he : 0 < e) : c ^ e % PP = 0 := by
  rw [Nat.pow_mod, hc, Nat.zero_pow he, Nat.zero_mod]

set_option maxRecDepth 100000 in
set_option maxHeartbeats 4000000 in
theorem walk (a0 : Int) (w0 : (Lit.int .u64 a0).wf = true) (a1 : Int) (w1 : (Lit.int .u64 a1).wf = true) (a2 : Int) (w2 : (Lit.int .u64 a2).wf = true) (w : World) :
    Calls Try.prog 4 #[.int .u64 a0, .int .u64 a1, .int .u64 a2] w fun e w' => e = .returned (.bool true) ∧ Below w.heap.size w w' := by
  have b0 := bounds_u64 w0
  have b1 := bounds_u64 w1
  have b2 := bounds_u64 w2
  obtain ⟨c, rfl⟩ : ∃ n : Nat, a0 = n := ⟨a0.toNat, by omega⟩
  obtain ⟨a', rfl⟩ : ∃ n : Nat, a1 = n := ⟨a1.toNat, by omega⟩
  obtain ⟨b', rfl⟩ : ∃ n : Nat, a2 = n := ⟨a2.toNat, by omega⟩
  obtain ⟨a, ha⟩ : ∃ a, a' / 2 = a := ⟨_, rfl⟩
  obtain ⟨b, hb⟩ : ∃ b, b' / 2 = b := ⟨_, rfl⟩
  obtain ⟨ab, hab⟩ : ∃ s, a + b = s := ⟨_, rfl⟩
  have E1 : (a' : Int) / 2 = (a : Int) := by omega
  have E2 : (b' : Int) / 2 = (b : Int) := by omega
  have E3 : (a : Int) + (b : Int) = (ab : Int) := by omega
  have la : a < 9223372036854775808 := by omega
  have lb : b < 9223372036854775808 := by omega
  have lab : ab < 18446744073709551616 := by omega
  have lc : c < 18446744073709551616 := by omega
  have hP := PP_bd
  have HA := Lib.hid (fun W => alive_any W)
  have HX := Lib.hid (fun W => power_any c a W lc (by omega))
  have HY := Lib.hid (fun W => power_any c b W lc (by omega))
  have HZ := Lib.hid (fun W => power_any c ab W lc lab)
  have HO := Lib.hid (fun W => power_at c 2305843009213693950 c QQ rfl rfl W lc (by decide))
  have H0 := Lib.hid (fun W => power_at c 0 c 0 rfl rfl W lc (by decide))
  have H1 := Lib.hid (fun W => power_at c 1 c 1 rfl rfl W lc (by decide))
  rw [Nat.pow_zero, one_mod] at H0
  rw [Nat.pow_one] at H1
  have lym : c ^ b % PP < PP := Nat.mod_lt _ (by omega)
  have lzm : c ^ ab % PP < PP := Nat.mod_lt _ (by omega)
  have HB := Lib.hid (fun W => power_at (c ^ b % PP : Nat) 2305843009213693949 (c ^ b % PP) (QQ - 1) rfl rfl W (by omega) (by decide))
  have lkm : (c ^ b % PP) ^ (QQ - 1) % PP < PP := Nat.mod_lt _ (by omega)
  obtain ⟨r, hr⟩ : ∃ r, c % PP = r := ⟨_, rfl⟩
  have E4 : (c : Int) % 2305843009213693951 = (r : Int) := by rw [← hr, ← PP_int]; rfl
  have HPr := Lib.hid (fun W => product_any (c ^ ab % PP) ((c ^ b % PP) ^ (QQ - 1) % PP) W lzm lkm)
  by_cases hz : r = 0
  · have ho := pow_zero_mod (c := c) (e := QQ) (by rw [hr]; exact hz) (by have := QQ_bd; omega)
    rw [ho] at HO
    obtain ⟨x, hx⟩ : ∃ x, c ^ a % PP = x := ⟨_, rfl⟩
    obtain ⟨k, hk⟩ : ∃ x, (c ^ b % PP) ^ (QQ - 1) % PP = x := ⟨_, rfl⟩
    rw [hk] at HB
    obtain ⟨y, hy⟩ : ∃ x, c ^ b % PP = x := ⟨_, rfl⟩
    obtain ⟨z, hz'⟩ : ∃ x, c ^ ab % PP = x := ⟨_, rfl⟩
    rw [hx] at HX
    rw [hy] at HY HB
    rw [hz'] at HZ
    rw [hr, hz] at H1
    rw [hz] at E4
    clear hx hk hy hz' hr ho hz hP lym lzm lkm ha hb hab w0 w1 w2 b0 b1 b2 HPr
    go_enter Try.func4, Try.ntmps4
    go_wp2_with fail
    with_reducible refine (HX.out _).mono ?_
    rintro e w1 ⟨rfl, b1⟩
    go_wp2_with fail
    with_reducible refine (HY.out _).mono ?_
    rintro e w2 ⟨rfl, b2⟩
    have b2' := step_b b1 b2
    go_wp2_with fail
    with_reducible refine (HZ.out _).mono ?_
    rintro e w3 ⟨rfl, b3⟩
    have b3' := step_b b2' b3
    go_wp2_with fail
    with_reducible refine (HO.out _).mono ?_
    rintro e w4 ⟨rfl, b4⟩
    have b4' := step_b b3' b4
    go_wp2_with fail
    with_reducible refine (HB.out _).mono ?_
    rintro e w5 ⟨rfl, b5⟩
    have b5' := step_b b4' b5
    go_wp2_with fail
    with_reducible refine (HA.out _).mono ?_
    rintro e w6 ⟨rfl, b6⟩
    have b6' := step_b b5' b6
    go_wp2_with fail
    with_reducible refine (H0.out _).mono ?_
    rintro e w8 ⟨rfl, b8⟩
    have b8' := step_b b6' b8
    go_wp2_with fail
    with_reducible refine (H1.out _).mono ?_
    rintro e w9 ⟨rfl, b9⟩
    have b9' := step_b b8' b9
    go_wp2_with fail
    go_ret
    exact ⟨rfl, b9'⟩
  · have ho := fermat c (by rw [hr]; exact hz)
    have hbk := back_mul c a b (by rw [hr]; exact hz)
    rw [hab] at hbk
    rw [hbk] at HPr
    rw [ho] at HO
    obtain ⟨x, hx⟩ : ∃ x, c ^ a % PP = x := ⟨_, rfl⟩
    obtain ⟨k, hk⟩ : ∃ x, (c ^ b % PP) ^ (QQ - 1) % PP = x := ⟨_, rfl⟩
    rw [hk] at HB HPr
    obtain ⟨y, hy⟩ : ∃ x, c ^ b % PP = x := ⟨_, rfl⟩
    obtain ⟨z, hz'⟩ : ∃ x, c ^ ab % PP = x := ⟨_, rfl⟩
    rw [hx] at HX HPr
    rw [hy] at HY HB
    rw [hz'] at HZ HPr
    rw [hr] at H1
    have t1 : ((r : Int) == 0) = false := by simp; omega
    have t2 : ((x : Int) == x) = true := by simp
    have t3 : ((r : Int) == r) = true := by simp
    clear hx hk hy hz' hr ho hbk hz hP lym lzm lkm ha hb hab w0 w1 w2 b0 b1 b2
    go_enter Try.func4, Try.ntmps4
    go_wp2_with fail
    with_reducible refine (HX.out _).mono ?_
    rintro e w1 ⟨rfl, b1⟩
    go_wp2_with fail
    with_reducible refine (HY.out _).mono ?_
    rintro e w2 ⟨rfl, b2⟩
    have b2' := step_b b1 b2
    go_wp2_with fail
    with_reducible refine (HZ.out _).mono ?_
    rintro e w3 ⟨rfl, b3⟩
    have b3' := step_b b2' b3
    go_wp2_with fail
    with_reducible refine (HO.out _).mono ?_
    rintro e w4 ⟨rfl, b4⟩
    have b4' := step_b b3' b4
    go_wp2_with fail
    with_reducible refine (HB.out _).mono ?_
    rintro e w5 ⟨rfl, b5⟩
    have b5' := step_b b4' b5
    go_wp2_with fail
    with_reducible refine (HA.out _).mono ?_
    rintro e w6 ⟨rfl, b6⟩
    have b6' := step_b b5' b6
    go_wp2_with fail
    with_reducible refine (HPr.out _).mono ?_
    rintro e w7 ⟨rfl, rfl⟩
    go_wp2_with fail
    with_reducible refine (H0.out _).mono ?_
    rintro e w8 ⟨rfl, b8⟩
    have b8' := step_b b6' b8
    go_wp2_with fail
    with_reducible refine (H1.out _).mono ?_
    rintro e w9 ⟨rfl, b9⟩
    have b9' := step_b b8' b9
    go_wp2_with fail
    go_ret
    exact ⟨rfl, b9'⟩

set_option maxRecDepth 100000 in
theorem lifted (os : Os) (started : os.Started) (H : Type) (enc : TypeId × Value → H) :
    ReturnsInHanded {} Try.checked os 4 .any (Rows.schnorrSumsSpec.pre6 enc Try.prog Try.f4 Rows.schnorrSumsRow.domain false) (Rows.schnorrSumsSpec.post enc Try.prog Try.f4 false true false false) := by
  refine returnsInHanded_of_change (C := Try.checked) own started (by kernel_rfl) Try.func4
    (ChangeSpec.witness6 (enc := enc) (C := Try.checked) false ⟨#[], #[.int .u64 0, .int .u64 0, .int .u64 0], []⟩ 8 (by kernel_rfl) (by kernel_rfl) (by kernel_rfl) (by kernel_rfl)) ?_
  intro W base args ds gs before hval0 hW hcnd _
  have hval : ∀ (j : Nat) t v, Try.f4.params[j]? = some t → args[j]? = some v → Value.okWide Try.prog W .any base t v := hval0
  have hW' := hW
  obtain ⟨p, q, hA0, hV, rfl, hfz, hnd⟩ := hW
  have hA : DataW.TrodAll enc Try.prog W 0 (fun _ => true) true Try.f4.params.toList args.toList ds p := hA0
  rw [Try.params4] at hA hval
  obtain ⟨v0, vs0, d0, ds0, p0, q0, hargs, rfl, rfl, h0, r0⟩ := trodAll_cons hA
  obtain ⟨v1, vs1, d1, ds1, p1, q1, rfl, rfl, rfl, h1, r1⟩ := trodAll_cons r0
  obtain ⟨v2, vs2, d2, ds2, p2, q2, rfl, rfl, rfl, h2, r2⟩ := trodAll_cons r1
  obtain ⟨rfl, rfl, rfl⟩ := trodAll_nil r2
  obtain rfl : args = #[v0, v1, v2] := by cases args; simp_all
  obtain ⟨rfl, rfl⟩ := trodVars_none hV
  have k0 := h0
  have lt0 : ∀ x ∈ p0, x.block < W.heap.size := by obtain ⟨m, hm⟩ := k0; exact DataW.trod_lt m _ _ _ hm
  have k1 := h1
  have lt1 : ∀ x ∈ p1, x.block < W.heap.size := by obtain ⟨m, hm⟩ := k1; exact DataW.trod_lt m _ _ _ hm
  have k2 := h2
  have lt2 : ∀ x ∈ p2, x.block < W.heap.size := by obtain ⟨m, hm⟩ := k2; exact DataW.trod_lt m _ _ _ hm
  obtain ⟨a0, rfl, _, _, w0⟩ := open_int Try.underlying22 (hval 0 22 v0 rfl rfl) h0
  obtain ⟨a1, rfl, _, _, w1⟩ := open_int Try.underlying22 (hval 1 22 v1 rfl rfl) h1
  obtain ⟨a2, rfl, _, _, w2⟩ := open_int Try.underlying22 (hval 2 22 v2 rfl rfl) h2
  clear hA0 hval0
  refine (walk a0 w0 a1 w1 a2 w2 W).mono fun e W' ⟨he, bel⟩ => ?_
  subst he
  exact ⟨_, rfl, _, _, _, [], _, [], hW', trodAll_mk1 (shut_bool Try.underlying4 _), (trodAll_cons_mk (Below.trod laidOut (by kernel_rfl) (of_decide_eq_true (by kernel_rfl)) k0 bel lt0) (trodAll_cons_mk (Below.trod laidOut (by kernel_rfl) (of_decide_eq_true (by kernel_rfl)) k1 bel lt1) (trodAll_cons_mk (Below.trod laidOut (by kernel_rfl) (of_decide_eq_true (by kernel_rfl)) k2 bel lt2) trodAll_mk0))), rfl, bel.frame _, fun h => by cases h⟩

theorem over : Rows.schnorrSumsRow.holds Try.pinned (OpenSpec.ofChange Rows.schnorrSumsSpec) :=
  OpenClaim.holds_of_wide 4 Try.f4 rfl rfl rfl rfl rfl rfl rfl ⟨rfl, rfl, rfl, rfl, rfl⟩ rfl rfl rfl rfl rfl (by kernel_rfl) Try.func4 (by kernel_rfl)
    (of_decide_eq_true (by kernel_rfl)) (by unfold Func.isWrapper; first | (rw [if_pos (by decide +kernel)]; kernel_rfl) | (rw [if_neg (by decide +kernel)]; exact ⟨rfl, rfl⟩))
    (fun os started H enc _ => lifted os started H enc)

/-- The statement. -/
theorem proved : Rows.SchnorrSumsSaid := over
#print axioms proved
end Go.Proofs.Ytcnmoallgfdomaa.schnorrSums
