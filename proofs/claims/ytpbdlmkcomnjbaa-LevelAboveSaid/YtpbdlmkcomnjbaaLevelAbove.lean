/- What this text proves: the statement LevelAbove: for every two numbers and two whole ones the law returns true and leaves its arguments as they were. No condition. -/
import Derived.Test.YtpbdlmkcomnjbaaRows
import Derived.Test.YtpbdlmkcomnjbaaOpenF
import Derived.Test.YtpbdlmkcomnjbaaLevN
import Derived.ProofKit
import Derived.OpenShut
import Derived.ChangeOld
namespace Go.Proofs.Ytpbdlmkcomnjbaa.levelAbove
open Go.ChangeShapes Go.WideShapes Go.ChangeAt Go.RowKit
set_option linter.unusedVariables false
set_option linter.unusedSimpArgs false

theorem abv_nan {a : Nat} {n : Int} (h : abvF a n = true) : nanB a = false := by
  unfold abvF at h
  cases hn : nanB a with
  | false => rfl
  | true => rw [hn] at h; cases h
theorem abv_less {a : Nat} {n m : Int} (h : abvF a n = true) (hm : m ≤ n) : abvF a m = true := by
  have hbp := big_pos
  have ha := abv_nan h
  unfold abvF at *
  rw [ha, if_neg (by decide)] at h ⊢
  by_cases hi : rg a = infR
  · rw [if_pos hi] at h ⊢
    exact h
  · rw [if_neg hi] at h ⊢
    rw [decide_eq_true_eq] at h ⊢
    exact Int.lt_of_le_of_lt (Int.mul_le_mul_of_nonneg_right hm (by omega)) h
theorem abv_place {a b : Nat} {n : Int} (h : abvF a n = true) (hb : nanB b = false) (hp : place a ≤ place b) : abvF b n = true := by
  have ha := abv_nan h
  have h1 := nn_le ha
  have h2 := nn_le hb
  have hi : infR = 9218868437227405312 := rfl
  have hk : key a ≤ key b := by
    rw [(place_nn ha).2, (place_nn hb).2] at hp
    unfold key
    cases sa : sg a <;> cases sb : sg b <;> simp only [sa, sb, Bool.false_eq_true, if_false, if_true] at hp ⊢ <;> omega
  unfold abvF at *
  rw [ha] at h
  rw [hb]
  rw [if_neg (by decide)] at h ⊢
  by_cases ia : rg a = infR
  · rw [if_pos ia] at h
    have sa : sg a = false := by simpa using h
    have ka : key a = 9218868437227405312 := by unfold key; rw [sa, ia]; rfl
    rw [ka] at hk
    have sb : sg b = false := by
      cases sb : sg b with
      | false => rfl
      | true => unfold key at hk; rw [sb, if_pos rfl] at hk; omega
    have ib : rg b = infR := by unfold key at hk; rw [sb, if_neg (by decide)] at hk; omega
    rw [if_pos ib, sb]
    rfl
  · rw [if_neg ia, decide_eq_true_eq] at h
    by_cases ib : rg b = infR
    · rw [if_pos ib]
      cases sb : sg b with
      | false => rfl
      | true =>
        exfalso
        unfold key at hk
        rw [sb, if_pos rfl, ib] at hk
        cases sa : sg a <;> rw [sa] at hk <;> simp at hk <;> omega
    · rw [if_neg ib, decide_eq_true_eq]
      exact Int.lt_of_lt_of_le h ((sval_le_iff a b).2 hk)
theorem cmp_le {x y : Int} (h : cmpI x y = 0 ∨ cmpI x y = -1) : x ≤ y := by
  unfold cmpI at h
  split at h
  · omega
  · split at h
    · rcases h with h | h <;> cases h
    · omega
theorem cmp_three (x y : Int) : cmpI x y = 1 ∨ cmpI x y = 0 ∨ cmpI x y = -1 := by
  unfold cmpI
  split
  · exact .inr (.inr rfl)
  · split
    · exact .inl rfl
    · exact .inr (.inl rfl)
set_option maxRecDepth 100000 in
set_option maxHeartbeats 4000000 in
theorem walk (a : Nat) (ha : a < 18446744073709551616) (b : Nat) (hb : b < 18446744073709551616) (n m : Int) (hn : -9223372036854775808 ≤ n ∧ n ≤ 9223372036854775807) (hm : -9223372036854775808 ≤ m ∧ m ≤ 9223372036854775807) (w : World) : Calls Try.prog 10 #[.float .f64 a, .float .f64 b, .agg #[.int .i64 n, .int .i64 m]] w fun e w' => e = .returned (.bool true) ∧ Below w.heap.size w w' := by
  have LB : Hid (Below w.heap.size w (w.alloc (.cells #[.int .i64 n, .int .i64 m] 34))) := Lib.hid (by (first | assumption | (repeat (first | exact Below.refl _ _ | assumption | apply Below.drew | apply below_drewN | (refine Below.setCell ?_ (by (try simp) <;> omega) _) | (refine Below.alloc ?_ (by (try simp) <;> omega) _)))))
  have HA := Lib.hid (above_any a n ha hn)
  have HM := Lib.hid (above_any a m ha hm)
  have HB := Lib.hid (above_any b n hb hn)
  have HO := Lib.hid (order_any a b ha hb)
  have fa := f_neq (t := 22) ha ha
  rw [eq_self] at fa
  have fb := f_eql (t := 22) hb hb
  have eb : eqF b b = !nanB b := by have := eq_self b; cases h : eqF b b <;> rw [h] at this <;> simp at this <;> rw [this] <;> rfl
  rw [eb] at fb
  have h1 := @abv_nan a n
  have h2 := fun h : abvF a n = true => @abv_less a n m h
  have h3 := fun h : abvF a n = true => @abv_place a b n h
  have hc3 := cmp_three (place a) (place b)
  have hcl := @cmp_le (place a) (place b)
  obtain ⟨x, hx⟩ : ∃ x, abvF a n = x := ⟨_, rfl⟩
  obtain ⟨xm, hxm⟩ : ∃ x, abvF a m = x := ⟨_, rfl⟩
  obtain ⟨xb, hxb⟩ : ∃ x, abvF b n = x := ⟨_, rfl⟩
  obtain ⟨o, ho⟩ : ∃ x, cmpI (place a) (place b) = x := ⟨_, rfl⟩
  obtain ⟨na, hna⟩ : ∃ x, nanB a = x := ⟨_, rfl⟩
  obtain ⟨nb, hnb⟩ : ∃ x, nanB b = x := ⟨_, rfl⟩
  rw [hx] at HA h1 h2 h3
  rw [hxm] at HM h2
  rw [hxb] at HB h3
  rw [ho] at HO hc3 hcl
  rw [hna] at fa h1
  rw [hnb] at fb h3
  clear hx hxm hxb ho hna hnb eb hn hm
  cases x with
  | false =>
    clear h1 h2 h3 hc3 hcl fb
    cases na with
    | false =>
      go_enter Try.func10, Try.ntmps10
      go_wp2_with fail
      with_reducible refine (HA.out _).mono ?_
      rintro e w1 ⟨rfl, rfl⟩
      go_wp2_with fail
      with_reducible refine (alive_any _).mono ?_
      rintro e v1 ⟨rfl, hbel⟩
      have HBL1 := Lib.hid hbel
      clear hbel
      go_wp2_with fail
      go_ret
      exact ⟨rfl, LB.out.trans (HBL1.out.mono LB.out.size)⟩
    | true =>
      go_enter Try.func10, Try.ntmps10
      go_wp2_with fail
      with_reducible refine (HA.out _).mono ?_
      rintro e w1 ⟨rfl, rfl⟩
      go_wp2_with fail
      with_reducible refine (alive_any _).mono ?_
      rintro e v1 ⟨rfl, hbel⟩
      have HBL1 := Lib.hid hbel
      clear hbel
      go_wp2_with fail
      go_ret
      exact ⟨rfl, LB.out.trans (HBL1.out.mono LB.out.size)⟩
  | true =>
    obtain rfl := h1 rfl
    clear h1
    by_cases hmn : m ≤ n
    · obtain rfl := h2 rfl hmn
      have hd : decide (m ≤ n) = true := decide_eq_true hmn
      clear h2 hmn
      rcases hc3 with rfl | rfl | rfl
      · clear h3 hcl fb
        go_enter Try.func10, Try.ntmps10
        go_wp2_with fail
        with_reducible refine (HA.out _).mono ?_
        rintro e w1 ⟨rfl, rfl⟩
        go_wp2_with fail
        with_reducible refine (HM.out _).mono ?_
        rintro e w1 ⟨rfl, rfl⟩
        go_wp2_with fail
        with_reducible refine (HO.out _).mono ?_
        rintro e w1 ⟨rfl, rfl⟩
        go_wp2_with fail
        with_reducible refine (alive_any _).mono ?_
        rintro e v1 ⟨rfl, hbel⟩
        have HBL1 := Lib.hid hbel
        clear hbel
        go_wp2_with fail
        go_ret
        exact ⟨rfl, LB.out.trans (HBL1.out.mono LB.out.size)⟩
      · have hpl := hcl (.inl rfl)
        clear hcl
        cases nb with
        | true =>
          clear h3 hpl
          go_enter Try.func10, Try.ntmps10
          go_wp2_with fail
          with_reducible refine (HA.out _).mono ?_
          rintro e w1 ⟨rfl, rfl⟩
          go_wp2_with fail
          with_reducible refine (HM.out _).mono ?_
          rintro e w1 ⟨rfl, rfl⟩
          go_wp2_with fail
          with_reducible refine (HO.out _).mono ?_
          rintro e w1 ⟨rfl, rfl⟩
          go_wp2_with fail
          with_reducible refine (alive_any _).mono ?_
          rintro e v1 ⟨rfl, hbel⟩
          have HBL1 := Lib.hid hbel
          clear hbel
          go_wp2_with fail
          go_ret
          exact ⟨rfl, LB.out.trans (HBL1.out.mono LB.out.size)⟩
        | false =>
          obtain rfl := h3 rfl rfl hpl
          clear h3 hpl
          go_enter Try.func10, Try.ntmps10
          go_wp2_with fail
          with_reducible refine (HA.out _).mono ?_
          rintro e w1 ⟨rfl, rfl⟩
          go_wp2_with fail
          with_reducible refine (HM.out _).mono ?_
          rintro e w1 ⟨rfl, rfl⟩
          go_wp2_with fail
          with_reducible refine (HO.out _).mono ?_
          rintro e w1 ⟨rfl, rfl⟩
          go_wp2_with fail
          with_reducible refine (HB.out _).mono ?_
          rintro e w1 ⟨rfl, rfl⟩
          go_wp2_with fail
          with_reducible refine (alive_any _).mono ?_
          rintro e v1 ⟨rfl, hbel⟩
          have HBL1 := Lib.hid hbel
          clear hbel
          go_wp2_with fail
          go_ret
          exact ⟨rfl, LB.out.trans (HBL1.out.mono LB.out.size)⟩
      · have hpl := hcl (.inr rfl)
        clear hcl
        cases nb with
        | true =>
          clear h3 hpl
          go_enter Try.func10, Try.ntmps10
          go_wp2_with fail
          with_reducible refine (HA.out _).mono ?_
          rintro e w1 ⟨rfl, rfl⟩
          go_wp2_with fail
          with_reducible refine (HM.out _).mono ?_
          rintro e w1 ⟨rfl, rfl⟩
          go_wp2_with fail
          with_reducible refine (HO.out _).mono ?_
          rintro e w1 ⟨rfl, rfl⟩
          go_wp2_with fail
          with_reducible refine (alive_any _).mono ?_
          rintro e v1 ⟨rfl, hbel⟩
          have HBL1 := Lib.hid hbel
          clear hbel
          go_wp2_with fail
          go_ret
          exact ⟨rfl, LB.out.trans (HBL1.out.mono LB.out.size)⟩
        | false =>
          obtain rfl := h3 rfl rfl hpl
          clear h3 hpl
          go_enter Try.func10, Try.ntmps10
          go_wp2_with fail
          with_reducible refine (HA.out _).mono ?_
          rintro e w1 ⟨rfl, rfl⟩
          go_wp2_with fail
          with_reducible refine (HM.out _).mono ?_
          rintro e w1 ⟨rfl, rfl⟩
          go_wp2_with fail
          with_reducible refine (HO.out _).mono ?_
          rintro e w1 ⟨rfl, rfl⟩
          go_wp2_with fail
          with_reducible refine (HB.out _).mono ?_
          rintro e w1 ⟨rfl, rfl⟩
          go_wp2_with fail
          with_reducible refine (alive_any _).mono ?_
          rintro e v1 ⟨rfl, hbel⟩
          have HBL1 := Lib.hid hbel
          clear hbel
          go_wp2_with fail
          go_ret
          exact ⟨rfl, LB.out.trans (HBL1.out.mono LB.out.size)⟩
    · have hd : decide (m ≤ n) = false := decide_eq_false hmn
      skip
      clear h2 hmn
      rcases hc3 with rfl | rfl | rfl
      · clear h3 hcl fb
        go_enter Try.func10, Try.ntmps10
        go_wp2_with fail
        with_reducible refine (HA.out _).mono ?_
        rintro e w1 ⟨rfl, rfl⟩
        go_wp2_with fail
        with_reducible refine (HO.out _).mono ?_
        rintro e w1 ⟨rfl, rfl⟩
        go_wp2_with fail
        with_reducible refine (alive_any _).mono ?_
        rintro e v1 ⟨rfl, hbel⟩
        have HBL1 := Lib.hid hbel
        clear hbel
        go_wp2_with fail
        go_ret
        exact ⟨rfl, LB.out.trans (HBL1.out.mono LB.out.size)⟩
      · have hpl := hcl (.inl rfl)
        clear hcl
        cases nb with
        | true =>
          clear h3 hpl
          go_enter Try.func10, Try.ntmps10
          go_wp2_with fail
          with_reducible refine (HA.out _).mono ?_
          rintro e w1 ⟨rfl, rfl⟩
          go_wp2_with fail
          with_reducible refine (HO.out _).mono ?_
          rintro e w1 ⟨rfl, rfl⟩
          go_wp2_with fail
          with_reducible refine (alive_any _).mono ?_
          rintro e v1 ⟨rfl, hbel⟩
          have HBL1 := Lib.hid hbel
          clear hbel
          go_wp2_with fail
          go_ret
          exact ⟨rfl, LB.out.trans (HBL1.out.mono LB.out.size)⟩
        | false =>
          obtain rfl := h3 rfl rfl hpl
          clear h3 hpl
          go_enter Try.func10, Try.ntmps10
          go_wp2_with fail
          with_reducible refine (HA.out _).mono ?_
          rintro e w1 ⟨rfl, rfl⟩
          go_wp2_with fail
          with_reducible refine (HO.out _).mono ?_
          rintro e w1 ⟨rfl, rfl⟩
          go_wp2_with fail
          with_reducible refine (HB.out _).mono ?_
          rintro e w1 ⟨rfl, rfl⟩
          go_wp2_with fail
          with_reducible refine (alive_any _).mono ?_
          rintro e v1 ⟨rfl, hbel⟩
          have HBL1 := Lib.hid hbel
          clear hbel
          go_wp2_with fail
          go_ret
          exact ⟨rfl, LB.out.trans (HBL1.out.mono LB.out.size)⟩
      · have hpl := hcl (.inr rfl)
        clear hcl
        cases nb with
        | true =>
          clear h3 hpl
          go_enter Try.func10, Try.ntmps10
          go_wp2_with fail
          with_reducible refine (HA.out _).mono ?_
          rintro e w1 ⟨rfl, rfl⟩
          go_wp2_with fail
          with_reducible refine (HO.out _).mono ?_
          rintro e w1 ⟨rfl, rfl⟩
          go_wp2_with fail
          with_reducible refine (alive_any _).mono ?_
          rintro e v1 ⟨rfl, hbel⟩
          have HBL1 := Lib.hid hbel
          clear hbel
          go_wp2_with fail
          go_ret
          exact ⟨rfl, LB.out.trans (HBL1.out.mono LB.out.size)⟩
        | false =>
          obtain rfl := h3 rfl rfl hpl
          clear h3 hpl
          go_enter Try.func10, Try.ntmps10
          go_wp2_with fail
          with_reducible refine (HA.out _).mono ?_
          rintro e w1 ⟨rfl, rfl⟩
          go_wp2_with fail
          with_reducible refine (HO.out _).mono ?_
          rintro e w1 ⟨rfl, rfl⟩
          go_wp2_with fail
          with_reducible refine (HB.out _).mono ?_
          rintro e w1 ⟨rfl, rfl⟩
          go_wp2_with fail
          with_reducible refine (alive_any _).mono ?_
          rintro e v1 ⟨rfl, hbel⟩
          have HBL1 := Lib.hid hbel
          clear hbel
          go_wp2_with fail
          go_ret
          exact ⟨rfl, LB.out.trans (HBL1.out.mono LB.out.size)⟩

set_option maxRecDepth 100000 in
theorem lifted (os : Os) (started : os.Started) (H : Type) (enc : TypeId × Value → H) :
    ReturnsInHanded {} Try.checked os 10 .any (Rows.levelAboveSpec.pre6 enc Try.prog Try.f10 Rows.levelAboveRow.domain false) (Rows.levelAboveSpec.post enc Try.prog Try.f10 false true false false) := by
  refine returnsInHanded_of_change (C := Try.checked) own started (by kernel_rfl) Try.func10
    (ChangeSpec.witness6 (enc := enc) (C := Try.checked) false ⟨#[], #[.float .f64 0, .float .f64 0, .agg #[.int .i64 0, .int .i64 0]], []⟩ 8 (by kernel_rfl) (by kernel_rfl) (by kernel_rfl) (by kernel_rfl)) ?_
  intro W base args ds gs before hval0 hW hcnd _
  have hval : ∀ (j : Nat) t v, Try.f10.params[j]? = some t → args[j]? = some v → Value.okWide Try.prog W .any base t v := hval0
  have hW' := hW
  obtain ⟨p, q, hA0, hV, rfl, hfz, hnd⟩ := hW
  have hA : DataW.TrodAll enc Try.prog W 0 (fun _ => true) true Try.f10.params.toList args.toList ds p := hA0
  rw [Try.params10] at hA hval
  obtain ⟨v0, vs0, d0, ds0, p0, q0, hargs, rfl, rfl, h0, r0⟩ := trodAll_cons hA
  obtain ⟨v1, vs1, d1, ds1, p1, q1, rfl, rfl, rfl, h1, r1⟩ := trodAll_cons r0
  obtain ⟨v2, vs2, d2, ds2, p2, q2, rfl, rfl, rfl, h2, r2⟩ := trodAll_cons r1
  obtain ⟨rfl, rfl, rfl⟩ := trodAll_nil r2
  obtain rfl : args = #[v0, v1, v2] := by cases args; simp_all
  obtain ⟨rfl, rfl⟩ := trodVars_none hV
  have k0 := h0
  have lt0 : ∀ x ∈ p0, x.block < W.heap.size := by obtain ⟨m, hm⟩ := k0; exact DataW.trod_lt m _ _ _ hm
  have k1 := h1
  have lt1 : ∀ x ∈ p1, x.block < W.heap.size := by obtain ⟨m, hm⟩ := k1; exact DataW.trod_lt m _ _ _ hm
  have k2 := h2
  have lt2 : ∀ x ∈ p2, x.block < W.heap.size := by obtain ⟨m, hm⟩ := k2; exact DataW.trod_lt m _ _ _ hm
  obtain ⟨a0, rfl, w0⟩ := open_f64 (hval 0 22 v0 rfl rfl) h0
  obtain ⟨a1, rfl, w1⟩ := open_f64 (hval 1 22 v1 rfl rfl) h1
  obtain ⟨a2, b2, rfl, w2, x2⟩ := open_i2 (hval 2 34 v2 rfl rfl) h2
  clear hA0 hval0
  refine (walk a0 w0 a1 w1 a2 b2 w2 x2 W).mono fun e W' ⟨he, bel⟩ => ?_
  subst he
  exact ⟨_, rfl, _, _, _, [], _, [], hW', trodAll_mk1 (shut_bool Try.underlying4 _), (trodAll_cons_mk (Below.trod laidOut (by kernel_rfl) (of_decide_eq_true (by kernel_rfl)) k0 bel lt0) (trodAll_cons_mk (Below.trod laidOut (by kernel_rfl) (of_decide_eq_true (by kernel_rfl)) k1 bel lt1) (trodAll_cons_mk (Below.trod laidOut (by kernel_rfl) (of_decide_eq_true (by kernel_rfl)) k2 bel lt2) trodAll_mk0))), rfl, bel.frame _, fun h => by cases h⟩

theorem over : Rows.levelAboveRow.holds Try.pinned (OpenSpec.ofChange Rows.levelAboveSpec) :=
  OpenClaim.holds_of_wide 10 Try.f10 rfl rfl rfl rfl rfl rfl rfl ⟨rfl, rfl, rfl, rfl, rfl⟩ rfl rfl rfl rfl rfl (by kernel_rfl) Try.func10 (by kernel_rfl)
    (of_decide_eq_true (by kernel_rfl)) (by unfold Func.isWrapper; first | (rw [if_pos (by decide +kernel)]; kernel_rfl) | (rw [if_neg (by decide +kernel)]; exact ⟨rfl, rfl⟩))
    (fun os started H enc _ => lifted os started H enc)

/-- The statement. -/
theorem proved : Rows.LevelAboveSaid := over
#print axioms proved
end Go.Proofs.Ytpbdlmkcomnjbaa.levelAbove
