/- What this text proves: the statement SchnorrKeys: for every two secrets the law returns true and leaves its arguments as they were. No condition. -/
import Derived.Test.YtcnmoallgfdomaaRows
import Derived.Test.YtcnmoallgfdomaaOwn
import Derived.Test.YtcnmoallgfdomaaPowKeyRef
import Derived.Test.YtcnmoallgfdomaaFermat
import Derived.ProofKit
import Derived.OpenShut
import Derived.ChangeOld
namespace Go.Proofs.Ytcnmoallgfdomaa.schnorrKeys
open Go.ChangeShapes Go.WideShapes Go.ChangeAt Go.RowKit
set_option linter.unusedVariables false
set_option linter.unusedSimpArgs false

theorem key_lt (s : Nat) : keyOf s < PP := by
  have := PP_bd
  unfold keyOf
  split
  · exact Nat.mod_lt _ (by omega)
  · omega
/-- The product of two keys. -/
theorem keys_mul {a b : Nat} (ha : 1 ≤ a ∧ a < QQ) (hb : 1 ≤ b ∧ b < QQ) : keyOf a * keyOf b % PP = G ^ ((a + b) % QQ) % PP := by
  rw [(key_yes ha).1, (key_yes hb).1, ← Nat.mul_mod, ← Nat.pow_add]
  have e := Nat.div_add_mod (a + b) QQ
  have hm := pow_mod_mul G QQ PP ((a + b) / QQ) (by rw [g_one, one_mod])
  rw [one_mod] at hm
  have h2 := pow_mod_add (m := PP) hm (rfl : G ^ ((a + b) % QQ) % PP = G ^ ((a + b) % QQ) % PP)
  rw [e, Nat.one_mul, Nat.mod_mod] at h2
  exact h2
theorem key_pos {a : Nat} (ha : 1 ≤ a ∧ a < QQ) : 0 < keyOf a := by
  rw [(key_yes ha).1]
  exact g_pos a (by omega)

set_option maxRecDepth 100000 in
set_option maxHeartbeats 4000000 in
theorem walk (a0 : Int) (w0 : (Lit.int .u64 a0).wf = true) (a1 : Int) (w1 : (Lit.int .u64 a1).wf = true) (w : World) :
    Calls Try.prog 5 #[.int .u64 a0, .int .u64 a1] w fun e w' => e = .returned (.bool true) ∧ Below w.heap.size w w' := by
  have b0 := bounds_u64 w0
  have b1 := bounds_u64 w1
  obtain ⟨a, rfl⟩ : ∃ n : Nat, a0 = n := ⟨a0.toNat, by omega⟩
  obtain ⟨b, rfl⟩ : ∃ n : Nat, a1 = n := ⟨a1.toNat, by omega⟩
  have HA := Lib.hid (fun W => alive_any W)
  have HKa := Lib.hid (fun W => key_any a W (by omega))
  have HKb := Lib.hid (fun W => key_any b W (by omega))
  have hQ := QQ_bd
  have hQQ : QQ = 2305843009213693950 := rfl
  by_cases ha : 1 ≤ a ∧ a < QQ
  · by_cases hb : 1 ≤ b ∧ b < QQ
    · obtain ⟨s, hs⟩ : ∃ s, (a + b) % QQ = s := ⟨_, rfl⟩
      have hsl : s < QQ := by rw [← hs]; exact Nat.mod_lt _ (by omega)
      have E1 : ((a : Int) + (b : Int)) % 2305843009213693950 = (s : Int) := by rw [← hs, ← QQ_int]; rfl
      have hmul := keys_mul ha hb
      rw [hs] at hmul
      have hx := key_pos ha
      have hxl := key_lt a
      have hyl := key_lt b
      have HPr := Lib.hid (fun W => product_any (keyOf a) (keyOf b) W hxl hyl)
      rw [hmul] at HPr
      have HPw := Lib.hid (fun W => power_at 37 a 37 a rfl rfl W (by decide) (by omega))
      have hk := (key_yes ha).1
      rw [← hk] at HPw
      have HKs := Lib.hid (fun W => key_any s W (by omega))
      rw [(key_yes ha).2] at HKa
      rw [(key_yes hb).2] at HKb
      obtain ⟨x, hxe⟩ : ∃ x, keyOf a = x := ⟨_, rfl⟩
      obtain ⟨y, hye⟩ : ∃ x, keyOf b = x := ⟨_, rfl⟩
      rw [hxe] at HKa HPr HPw hx hxl
      rw [hye] at HKb HPr
      have hPP : PP = 2305843009213693951 := rfl
      rcases Nat.eq_zero_or_pos s with h0 | h0
      · subst h0
        have HKs := Lib.hid (fun W => key_at 0 0 rfl W (by decide))
        rw [(key_no (s := 0) (by omega)).1, (key_no (s := 0) (by omega)).2] at HKs
        rw [Nat.pow_zero, one_mod] at HPr
        have la : a < 2305843009213693950 := by omega
        have lb : b < 2305843009213693950 := by omega
        clear hs hmul hx hk hxe hye hPP hxl hyl ha hb hQ hQQ hsl w0 w1 b0 b1
        go_enter Try.func5, Try.ntmps5
        go_wp2_with fail
        with_reducible refine (HKa.out _).mono ?_
        rintro e w1 ⟨rfl, b1⟩
        go_wp2_with fail
        with_reducible refine (HKb.out _).mono ?_
        rintro e w2 ⟨rfl, b2⟩
        have b2' := step_b b1 b2
        go_wp2_with fail
        with_reducible refine (HKs.out _).mono ?_
        rintro e w3 ⟨rfl, b3⟩
        have b3' := step_b b2' b3
        go_wp2_with fail
        with_reducible refine (HA.out _).mono ?_
        rintro e w4 ⟨rfl, b4⟩
        have b4' := step_b b3' b4
        go_wp2_with fail
        with_reducible refine (HPr.out _).mono ?_
        rintro e w5 ⟨rfl, rfl⟩
        go_wp2_with fail
        go_ret
        exact ⟨rfl, b4'⟩
      · have hy := key_yes (s := s) ⟨h0, hsl⟩
        rw [hy.1, hy.2] at HKs
        obtain ⟨z, hz⟩ : ∃ z, 37 ^ s % PP = z := ⟨_, rfl⟩
        have hz' : G ^ s % PP = z := hz
        rw [hz] at HKs
        rw [hz'] at HPr
        have la : a < 2305843009213693950 := by omega
        have lb : b < 2305843009213693950 := by omega
        have t1 : ((s : Int) == 0) = false := by simp; omega
        have t2 : ((z : Int) == z) = true := by simp
        have t3 : ((x : Int) == x) = true := by simp
        have t4 : (0 : Int) < (x : Int) := by omega
        have t5 : binOp .lss 22 (.int .u64 (x : Int)) (.int .u64 2305843009213693951) = pure (.bool true) := by
          rw [binOp_lss, decide_eq_true (by rw [hPP] at hxl; omega)]
        clear hs hmul hx hk hxe hye hPP hxl hyl ha hb hQ hQQ hsl w0 w1 b0 b1 hy hz hz'
        go_enter Try.func5, Try.ntmps5
        go_wp2_with fail
        with_reducible refine (HKa.out _).mono ?_
        rintro e w1 ⟨rfl, b1⟩
        go_wp2_with fail
        with_reducible refine (HKb.out _).mono ?_
        rintro e w2 ⟨rfl, b2⟩
        have b2' := step_b b1 b2
        go_wp2_with fail
        with_reducible refine (HKs.out _).mono ?_
        rintro e w3 ⟨rfl, b3⟩
        have b3' := step_b b2' b3
        go_wp2_with fail
        with_reducible refine (HA.out _).mono ?_
        rintro e w4 ⟨rfl, b4⟩
        have b4' := step_b b3' b4
        go_wp2_with fail
        with_reducible refine (HPr.out _).mono ?_
        rintro e w5 ⟨rfl, rfl⟩
        go_wp2_with fail
        with_reducible refine (HPw.out _).mono ?_
        rintro e w6 ⟨rfl, b6⟩
        go_wp2_with fail
        go_ret
        exact ⟨rfl, step_b b4' b6⟩
    · rw [(key_no hb).2] at HKb
      obtain ⟨f, hf⟩ : ∃ f, keyErr a = f := ⟨_, rfl⟩
      rw [hf] at HKa
      have hf2 : f = 0 := by rw [← hf]; exact (key_yes ha).2
      subst hf2
      clear hf ha hb hQ hQQ w0 w1 b0 b1
      go_enter Try.func5, Try.ntmps5
      go_wp2_with fail
      with_reducible refine (HKa.out _).mono ?_
      rintro e w1 ⟨rfl, b1⟩
      go_wp2_with fail
      with_reducible refine (HKb.out _).mono ?_
      rintro e w2 ⟨rfl, b2⟩
      have b2' := step_b b1 b2
      go_wp2_with fail
      with_reducible refine (HA.out _).mono ?_
      rintro e w4 ⟨rfl, b4⟩
      go_wp2_with fail
      go_ret
      exact ⟨rfl, step_b b2' b4⟩
  · rw [(key_no ha).2] at HKa
    obtain ⟨f, hf⟩ : ∃ f, keyErr b = f := ⟨_, rfl⟩
    rw [hf] at HKb
    clear hf ha hQ hQQ w0 w1 b0 b1
    go_enter Try.func5, Try.ntmps5
    go_wp2_with fail
    with_reducible refine (HKa.out _).mono ?_
    rintro e w1 ⟨rfl, b1⟩
    go_wp2_with fail
    with_reducible refine (HKb.out _).mono ?_
    rintro e w2 ⟨rfl, b2⟩
    have b2' := step_b b1 b2
    go_wp2_with fail
    with_reducible refine (HA.out _).mono ?_
    rintro e w4 ⟨rfl, b4⟩
    go_wp2_with fail
    go_ret
    exact ⟨rfl, step_b b2' b4⟩

set_option maxRecDepth 100000 in
theorem lifted (os : Os) (started : os.Started) (H : Type) (enc : TypeId × Value → H) :
    ReturnsInHanded {} Try.checked os 5 .any (Rows.schnorrKeysSpec.pre6 enc Try.prog Try.f5 Rows.schnorrKeysRow.domain false) (Rows.schnorrKeysSpec.post enc Try.prog Try.f5 false true false false) := by
  refine returnsInHanded_of_change (C := Try.checked) own started (by kernel_rfl) Try.func5
    (ChangeSpec.witness6 (enc := enc) (C := Try.checked) false ⟨#[], #[.int .u64 0, .int .u64 0], []⟩ 8 (by kernel_rfl) (by kernel_rfl) (by kernel_rfl) (by kernel_rfl)) ?_
  intro W base args ds gs before hval0 hW hcnd _
  have hval : ∀ (j : Nat) t v, Try.f5.params[j]? = some t → args[j]? = some v → Value.okWide Try.prog W .any base t v := hval0
  have hW' := hW
  obtain ⟨p, q, hA0, hV, rfl, hfz, hnd⟩ := hW
  have hA : DataW.TrodAll enc Try.prog W 0 (fun _ => true) true Try.f5.params.toList args.toList ds p := hA0
  rw [Try.params5] at hA hval
  obtain ⟨v0, vs0, d0, ds0, p0, q0, hargs, rfl, rfl, h0, r0⟩ := trodAll_cons hA
  obtain ⟨v1, vs1, d1, ds1, p1, q1, rfl, rfl, rfl, h1, r1⟩ := trodAll_cons r0
  obtain ⟨rfl, rfl, rfl⟩ := trodAll_nil r1
  obtain rfl : args = #[v0, v1] := by cases args; simp_all
  obtain ⟨rfl, rfl⟩ := trodVars_none hV
  have k0 := h0
  have lt0 : ∀ x ∈ p0, x.block < W.heap.size := by obtain ⟨m, hm⟩ := k0; exact DataW.trod_lt m _ _ _ hm
  have k1 := h1
  have lt1 : ∀ x ∈ p1, x.block < W.heap.size := by obtain ⟨m, hm⟩ := k1; exact DataW.trod_lt m _ _ _ hm
  obtain ⟨a0, rfl, _, _, w0⟩ := open_int Try.underlying22 (hval 0 22 v0 rfl rfl) h0
  obtain ⟨a1, rfl, _, _, w1⟩ := open_int Try.underlying22 (hval 1 22 v1 rfl rfl) h1
  clear hA0 hval0
  refine (walk a0 w0 a1 w1 W).mono fun e W' ⟨he, bel⟩ => ?_
  subst he
  exact ⟨_, rfl, _, _, _, [], _, [], hW', trodAll_mk1 (shut_bool Try.underlying4 _), (trodAll_cons_mk (Below.trod laidOut (by kernel_rfl) (of_decide_eq_true (by kernel_rfl)) k0 bel lt0) (trodAll_cons_mk (Below.trod laidOut (by kernel_rfl) (of_decide_eq_true (by kernel_rfl)) k1 bel lt1) trodAll_mk0)), rfl, bel.frame _, fun h => by cases h⟩

theorem over : Rows.schnorrKeysRow.holds Try.pinned (OpenSpec.ofChange Rows.schnorrKeysSpec) :=
  OpenClaim.holds_of_wide 5 Try.f5 rfl rfl rfl rfl rfl rfl rfl ⟨rfl, rfl, rfl, rfl, rfl⟩ rfl rfl rfl rfl rfl (by kernel_rfl) Try.func5 (by kernel_rfl)
    (of_decide_eq_true (by kernel_rfl)) (by unfold Func.isWrapper; first | (rw [if_pos (by decide +kernel)]; kernel_rfl) | (rw [if_neg (by decide +kernel)]; exact ⟨rfl, rfl⟩))
    (fun os started H enc _ => lifted os started H enc)

/-- The statement. -/
theorem proved : Rows.SchnorrKeysSaid := over
#print axioms proved
end Go.Proofs.Ytcnmoallgfdomaa.schnorrKeys
