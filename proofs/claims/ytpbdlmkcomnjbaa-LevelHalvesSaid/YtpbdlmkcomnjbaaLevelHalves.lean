/- What this text proves: the statement LevelHalves: for every part, total and level that is a number of parts of a power of two the law returns true and leaves its arguments as they were. No condition. -/
import Derived.Test.YtpbdlmkcomnjbaaRows
import Derived.Test.YtpbdlmkcomnjbaaOpenF
import Derived.Test.YtpbdlmkcomnjbaaLevQ
import Derived.ProofKit
import Derived.OpenShut
import Derived.ChangeOld
namespace Go.Proofs.Ytpbdlmkcomnjbaa.levelHalves
open Go.ChangeShapes Go.WideShapes Go.ChangeAt Go.RowKit
set_option linter.unusedVariables false
set_option linter.unusedSimpArgs false

theorem conv_whole (n : Nat) (w : World) : (convert 3 22 (.int .i64 (n : Int))).run Try.prog w = .ok (.float .f64 (FloatKind.f64.nearest (n : Int))) w := by
  have hs := run_underlying (w := w) Try.underlying3
  have hd := run_underlying (w := w) Try.underlying22
  unfold convert
  simp [Sem.run_bind, hs, hd, Conv.intToFloat]
set_option maxRecDepth 100000 in
set_option maxHeartbeats 4000000 in
theorem walk (part : Int) (hp : -9223372036854775808 ≤ part ∧ part ≤ 9223372036854775807) (total : Int) (ht : -9223372036854775808 ≤ total ∧ total ≤ 9223372036854775807) (n k : Int) (hn : -9223372036854775808 ≤ n ∧ n ≤ 9223372036854775807) (hk : -9223372036854775808 ≤ k ∧ k ≤ 9223372036854775807) (w : World) : Calls Try.prog 6 #[.int .i64 part, .int .i64 total, .agg #[.int .i64 n, .int .i64 k]] w fun e w' => e = .returned (.bool true) ∧ Below w.heap.size w w' := by
  have LB : Hid (Below w.heap.size w (w.alloc (.cells #[.int .i64 n, .int .i64 k] 34))) := Lib.hid (by (first | assumption | (repeat (first | exact Below.refl _ _ | assumption | apply Below.drew | apply below_drewN | (refine Below.setCell ?_ (by (try simp) <;> omega) _) | (refine Below.alloc ?_ (by (try simp) <;> omega) _)))))
  by_cases c1 : k < 0
  · have d1 : decide (k < 0) = true := decide_eq_true c1
    clear c1 hp ht hn hk
    go_enter Try.func6, Try.ntmps6
    go_wp2_with fail
    with_reducible refine (alive_any _).mono ?_
    rintro e v1 ⟨rfl, hbel⟩
    have HBL1 := Lib.hid hbel
    clear hbel
    go_wp2_with fail
    go_ret
    exact ⟨rfl, LB.out.trans (HBL1.out.mono LB.out.size)⟩
  have d1 : decide (k < 0) = false := decide_eq_false c1
  by_cases c2 : 9 < k
  · have d2 : decide (9 < k) = true := decide_eq_true c2
    clear c1 c2 hp ht hn hk
    go_enter Try.func6, Try.ntmps6
    go_wp2_with fail
    with_reducible refine (alive_any _).mono ?_
    rintro e v1 ⟨rfl, hbel⟩
    have HBL1 := Lib.hid hbel
    clear hbel
    go_wp2_with fail
    go_ret
    exact ⟨rfl, LB.out.trans (HBL1.out.mono LB.out.size)⟩
  have d2 : decide (9 < k) = false := decide_eq_false c2
  by_cases c3 : n < 1
  · have d3 : decide (n < 1) = true := decide_eq_true c3
    clear c1 c2 c3 hp ht hn hk
    go_enter Try.func6, Try.ntmps6
    go_wp2_with fail
    with_reducible refine (alive_any _).mono ?_
    rintro e v1 ⟨rfl, hbel⟩
    have HBL1 := Lib.hid hbel
    clear hbel
    go_wp2_with fail
    go_ret
    exact ⟨rfl, LB.out.trans (HBL1.out.mono LB.out.size)⟩
  have d3 : decide (n < 1) = false := decide_eq_false c3
  obtain ⟨k, rfl⟩ : ∃ x : Nat, k = x := ⟨k.toNat, by omega⟩
  obtain ⟨n, rfl⟩ : ∃ x : Nat, n = x := ⟨n.toNat, by omega⟩
  have hk9 : k ≤ 9 := by omega
  obtain ⟨q, hq⟩ : ∃ q, 2 ^ k = q := ⟨_, rfl⟩
  have hq512 : q ≤ 512 := hq ▸ (Nat.pow_le_pow_right (by decide) hk9 : 2 ^ k ≤ 2 ^ 9)
  have hq1 : 1 ≤ q := hq ▸ Nat.two_pow_pos k
  have hwq : wrap64 ((2 : Int) ^ k) = (q : Int) := by
    have e : (2 : Int) ^ k = ((2 ^ k : Nat) : Int) := by rw [Int.natCast_pow]; rfl
    rw [e, hq]
    unfold wrap64
    omega
  have bk : (k : Int) ≤ 9 := by omega
  have HQ := Lib.hid hq
  clear hq
  by_cases c4 : q < n
  · have d4 : decide ((q : Int) < (n : Int)) = true := decide_eq_true (by omega)
    have c4' := c4
    clear c1 c2 c3 hp ht hn hk hk9 hq512 hq1
    go_enter Try.func6, Try.ntmps6
    go_wp2_with fail
    with_reducible refine (alive_any _).mono ?_
    rintro e v1 ⟨rfl, hbel⟩
    have HBL1 := Lib.hid hbel
    clear hbel
    go_wp2_with fail
    go_ret
    exact ⟨rfl, LB.out.trans (HBL1.out.mono LB.out.size)⟩
  have d4 : decide ((q : Int) < (n : Int)) = false := decide_eq_false (by omega)
  have c4n : ¬ q < n := c4
  by_cases c5 : total < 0
  · have d5 : decide (total < 0) = true := decide_eq_true c5
    clear c1 c2 c3 c4 c5 hp ht hn hk hk9 hq512 hq1
    go_enter Try.func6, Try.ntmps6
    go_wp2_with fail
    with_reducible refine (alive_any _).mono ?_
    rintro e v1 ⟨rfl, hbel⟩
    have HBL1 := Lib.hid hbel
    clear hbel
    go_wp2_with fail
    go_ret
    exact ⟨rfl, LB.out.trans (HBL1.out.mono LB.out.size)⟩
  have d5 : decide (total < 0) = false := decide_eq_false c5
  by_cases c6 : 1099511627776 < total
  · have d6 : decide (1099511627776 < total) = true := decide_eq_true c6
    clear c1 c2 c3 c4 c5 c6 hp ht hn hk hk9 hq512 hq1
    go_enter Try.func6, Try.ntmps6
    go_wp2_with fail
    with_reducible refine (alive_any _).mono ?_
    rintro e v1 ⟨rfl, hbel⟩
    have HBL1 := Lib.hid hbel
    clear hbel
    go_wp2_with fail
    go_ret
    exact ⟨rfl, LB.out.trans (HBL1.out.mono LB.out.size)⟩
  have d6 : decide (1099511627776 < total) = false := decide_eq_false c6
  by_cases c7 : part < 0
  · have d7 : decide (part < 0) = true := decide_eq_true c7
    clear c1 c2 c3 c4 c5 c6 c7 hp ht hn hk hk9 hq512 hq1
    go_enter Try.func6, Try.ntmps6
    go_wp2_with fail
    with_reducible refine (alive_any _).mono ?_
    rintro e v1 ⟨rfl, hbel⟩
    have HBL1 := Lib.hid hbel
    clear hbel
    go_wp2_with fail
    go_ret
    exact ⟨rfl, LB.out.trans (HBL1.out.mono LB.out.size)⟩
  have d7 : decide (part < 0) = false := decide_eq_false c7
  by_cases c8 : 1099511627776 < part
  · have d8 : decide (1099511627776 < part) = true := decide_eq_true c8
    clear c1 c2 c3 c4 c5 c6 c7 c8 hp ht hn hk hk9 hq512 hq1
    go_enter Try.func6, Try.ntmps6
    go_wp2_with fail
    with_reducible refine (alive_any _).mono ?_
    rintro e v1 ⟨rfl, hbel⟩
    have HBL1 := Lib.hid hbel
    clear hbel
    go_wp2_with fail
    go_ret
    exact ⟨rfl, LB.out.trans (HBL1.out.mono LB.out.size)⟩
  have d8 : decide (1099511627776 < part) = false := decide_eq_false c8
  obtain ⟨p, rfl⟩ : ∃ p : Nat, part = p := ⟨part.toNat, by omega⟩
  obtain ⟨T, rfl⟩ : ∃ T : Nat, total = T := ⟨total.toNat, by omega⟩
  have hn1 : 1 ≤ n := by omega
  have hl : ∀ x : Nat, x ≤ 512 → x.log2 ≤ 52 := fun x hx => by
    rcases Nat.eq_zero_or_pos x with h | h
    · subst h; decide
    · have := (Nat.log2_lt (by omega : x ≠ 0)).2 (show x < 2 ^ 53 by omega)
      omega
  have v1 := conv_whole n
  rw [of_whole (by omega) (hl n (by omega))] at v1
  have v2 := conv_whole q
  rw [of_whole (by omega) (hl q hq512)] at v2
  have v3 := quot_whole (t := 22) (n := n) (k := k) (by omega) (hl n (by omega)) (by omega)
  rw [HQ.out] at v3
  obtain ⟨⟨r1, r2⟩, r3⟩ := exc_half (p := p) (T := T) (n := n) (k := k) (by omega) (by rw [HQ.out]; omega) (by omega)
  rw [HQ.out] at r3
  have o1 : one64 = 4607182418800017408 := rfl
  have HE := Lib.hid (fun W => exceeds_any (p : Int) (T : Int) (rnd n (tho - k)) (by omega) hp.2 W)
  have hx : excF (p : Int) (T : Int) (rnd n (tho - k)) = (decide (T * n < p * q), 0) := by
    unfold excF
    rw [if_pos ⟨r1, r2⟩, if_neg (by omega), Int.toNat_natCast, Int.toNat_natCast, r3]
  rw [hx] at HE
  simp only at HE
  obtain ⟨r, hr⟩ : ∃ r, rnd n (tho - k) = r := ⟨_, rfl⟩
  obtain ⟨x, hxe⟩ : ∃ r, rnd n tho = r := ⟨_, rfl⟩
  obtain ⟨y, hye⟩ : ∃ r, rnd q tho = r := ⟨_, rfl⟩
  rw [hr] at HE v3
  rw [hxe] at v1 v3
  rw [hye] at v2 v3
  obtain ⟨pq, hpq⟩ : ∃ z, p * q = z := ⟨_, rfl⟩
  obtain ⟨tn, htn⟩ : ∃ z, T * n = z := ⟨_, rfl⟩
  have hpb : pq ≤ 1099511627776 * 512 := hpq ▸ Nat.mul_le_mul (by omega) hq512
  have htb : tn ≤ 1099511627776 * 512 := htn ▸ Nat.mul_le_mul (by omega) (by omega)
  have m1 : wrap64 ((p : Int) * (q : Int)) = (pq : Int) := by rw [← Int.natCast_mul, hpq]; unfold wrap64; omega
  have m2 : wrap64 ((T : Int) * (n : Int)) = (tn : Int) := by rw [← Int.natCast_mul, htn]; unfold wrap64; omega
  rw [hpq, htn] at HE
  clear hx hr hxe hye hpq htn hpb htb r1 r2 r3 o1 hl hn1 c1 c2 c3 c4 c5 c6 c7 c8 hp ht hn hk hk9 hq512 hq1 HQ
  by_cases hb : tn < pq
  · rw [decide_eq_true hb] at HE
    go_enter Try.func6, Try.ntmps6
    go_wp2_with fail
    with_reducible refine (HE.out _).mono ?_
    rintro e v1 ⟨rfl, hbel⟩
    have HBL1 := Lib.hid hbel
    clear hbel
    go_wp2_with fail
    with_reducible refine (alive_any _).mono ?_
    rintro e v2 ⟨rfl, hbel⟩
    have HBL2 := Lib.hid hbel
    clear hbel
    have hcell : v2.cell? ⟨w.heap.size, 0, none⟩ = some (.int .i64 (n : Int)) := by
      have hs : (w.alloc (.cells #[.int .i64 (n : Int), .int .i64 (k : Int)] 34)).heap.size = w.heap.size + 1 := by simp
      have h0 : (w.alloc (.cells #[.int .i64 (n : Int), .int .i64 (k : Int)] 34)).cell? ⟨w.heap.size, 0, none⟩ = some (.int .i64 (n : Int)) := by
        have hh := heap_alloc_new w (.cells #[.int .i64 (n : Int), .int .i64 (k : Int)] 34)
        simp only [World.cell?, hh]
        rfl
      have h1 := HBL1.out.size
      rw [World.cell?_of_block (a := ⟨w.heap.size, 0, none⟩) (HBL2.out.block w.heap.size (by omega)), World.cell?_of_block (a := ⟨w.heap.size, 0, none⟩) (HBL1.out.block w.heap.size (by omega))]
      exact h0
    go_wp2_with fail
    go_ret
    exact ⟨rfl, (LB.out.trans (HBL1.out.mono LB.out.size)).trans (HBL2.out.mono (Nat.le_trans LB.out.size HBL1.out.size))⟩
  · rw [decide_eq_false hb] at HE
    go_enter Try.func6, Try.ntmps6
    go_wp2_with fail
    with_reducible refine (HE.out _).mono ?_
    rintro e v1 ⟨rfl, hbel⟩
    have HBL1 := Lib.hid hbel
    clear hbel
    go_wp2_with fail
    with_reducible refine (alive_any _).mono ?_
    rintro e v2 ⟨rfl, hbel⟩
    have HBL2 := Lib.hid hbel
    clear hbel
    have hcell : v2.cell? ⟨w.heap.size, 0, none⟩ = some (.int .i64 (n : Int)) := by
      have hs : (w.alloc (.cells #[.int .i64 (n : Int), .int .i64 (k : Int)] 34)).heap.size = w.heap.size + 1 := by simp
      have h0 : (w.alloc (.cells #[.int .i64 (n : Int), .int .i64 (k : Int)] 34)).cell? ⟨w.heap.size, 0, none⟩ = some (.int .i64 (n : Int)) := by
        have hh := heap_alloc_new w (.cells #[.int .i64 (n : Int), .int .i64 (k : Int)] 34)
        simp only [World.cell?, hh]
        rfl
      have h1 := HBL1.out.size
      rw [World.cell?_of_block (a := ⟨w.heap.size, 0, none⟩) (HBL2.out.block w.heap.size (by omega)), World.cell?_of_block (a := ⟨w.heap.size, 0, none⟩) (HBL1.out.block w.heap.size (by omega))]
      exact h0
    go_wp2_with fail
    go_ret
    exact ⟨rfl, (LB.out.trans (HBL1.out.mono LB.out.size)).trans (HBL2.out.mono (Nat.le_trans LB.out.size HBL1.out.size))⟩

set_option maxRecDepth 100000 in
theorem lifted (os : Os) (started : os.Started) (H : Type) (enc : TypeId × Value → H) :
    ReturnsInHanded {} Try.checked os 6 .any (Rows.levelHalvesSpec.pre6 enc Try.prog Try.f6 Rows.levelHalvesRow.domain false) (Rows.levelHalvesSpec.post enc Try.prog Try.f6 false true false false) := by
  refine returnsInHanded_of_change (C := Try.checked) own started (by kernel_rfl) Try.func6
    (ChangeSpec.witness6 (enc := enc) (C := Try.checked) false ⟨#[], #[.int .i64 0, .int .i64 0, .agg #[.int .i64 0, .int .i64 0]], []⟩ 8 (by kernel_rfl) (by kernel_rfl) (by kernel_rfl) (by kernel_rfl)) ?_
  intro W base args ds gs before hval0 hW hcnd _
  have hval : ∀ (j : Nat) t v, Try.f6.params[j]? = some t → args[j]? = some v → Value.okWide Try.prog W .any base t v := hval0
  have hW' := hW
  obtain ⟨p, q, hA0, hV, rfl, hfz, hnd⟩ := hW
  have hA : DataW.TrodAll enc Try.prog W 0 (fun _ => true) true Try.f6.params.toList args.toList ds p := hA0
  rw [Try.params6] at hA hval
  obtain ⟨v0, vs0, d0, ds0, p0, q0, hargs, rfl, rfl, h0, r0⟩ := trodAll_cons hA
  obtain ⟨v1, vs1, d1, ds1, p1, q1, rfl, rfl, rfl, h1, r1⟩ := trodAll_cons r0
  obtain ⟨v2, vs2, d2, ds2, p2, q2, rfl, rfl, rfl, h2, r2⟩ := trodAll_cons r1
  obtain ⟨rfl, rfl, rfl⟩ := trodAll_nil r2
  obtain rfl : args = #[v0, v1, v2] := by cases args; simp_all
  obtain ⟨rfl, rfl⟩ := trodVars_none hV
  have k0 := h0
  have lt0 : ∀ x ∈ p0, x.block < W.heap.size := by obtain ⟨m, hm⟩ := k0; exact DataW.trod_lt m _ _ _ hm
  have k1 := h1
  have lt1 : ∀ x ∈ p1, x.block < W.heap.size := by obtain ⟨m, hm⟩ := k1; exact DataW.trod_lt m _ _ _ hm
  have k2 := h2
  have lt2 : ∀ x ∈ p2, x.block < W.heap.size := by obtain ⟨m, hm⟩ := k2; exact DataW.trod_lt m _ _ _ hm
  obtain ⟨a0, rfl, w0⟩ := open_i64 (hval 0 3 v0 rfl rfl) h0
  obtain ⟨a1, rfl, w1⟩ := open_i64 (hval 1 3 v1 rfl rfl) h1
  obtain ⟨a2, b2, rfl, w2, x2⟩ := open_i2 (hval 2 34 v2 rfl rfl) h2
  clear hA0 hval0
  refine (walk a0 w0 a1 w1 a2 b2 w2 x2 W).mono fun e W' ⟨he, bel⟩ => ?_
  subst he
  exact ⟨_, rfl, _, _, _, [], _, [], hW', trodAll_mk1 (shut_bool Try.underlying4 _), (trodAll_cons_mk (Below.trod laidOut (by kernel_rfl) (of_decide_eq_true (by kernel_rfl)) k0 bel lt0) (trodAll_cons_mk (Below.trod laidOut (by kernel_rfl) (of_decide_eq_true (by kernel_rfl)) k1 bel lt1) (trodAll_cons_mk (Below.trod laidOut (by kernel_rfl) (of_decide_eq_true (by kernel_rfl)) k2 bel lt2) trodAll_mk0))), rfl, bel.frame _, fun h => by cases h⟩

theorem over : Rows.levelHalvesRow.holds Try.pinned (OpenSpec.ofChange Rows.levelHalvesSpec) :=
  OpenClaim.holds_of_wide 6 Try.f6 rfl rfl rfl rfl rfl rfl rfl ⟨rfl, rfl, rfl, rfl, rfl⟩ rfl rfl rfl rfl rfl (by kernel_rfl) Try.func6 (by kernel_rfl)
    (of_decide_eq_true (by kernel_rfl)) (by unfold Func.isWrapper; first | (rw [if_pos (by decide +kernel)]; kernel_rfl) | (rw [if_neg (by decide +kernel)]; exact ⟨rfl, rfl⟩))
    (fun os started H enc _ => lifted os started H enc)

/-- The statement. -/
theorem proved : Rows.LevelHalvesSaid := over
#print axioms proved
end Go.Proofs.Ytpbdlmkcomnjbaa.levelHalves
