/- What this text proves: the statement TurnsOrder: for every list of validators, number and place the law returns true and leaves its arguments as they were. No condition. -/
import Derived.Test.YtfnhlallfgfkkaaRows
import Derived.Test.YtfnhlallfgfkkaaOpenPair
import Derived.Test.YtfnhlallfgfkkaaRef08
import Derived.Test.YtfnhlallfgfkkaaQuiet
namespace Go.Proofs.Ytfnhlallfgfkkaa.turnsOrder
open Go.ChangeShapes Go.WideShapes Go.ChangeAt Go.RowKit Go.BigFrame
set_option linter.unusedVariables false
set_option linter.unusedSimpArgs false

theorem same_w {P : Program} {f : FuncId} {args : Array Value} {w : World} {v : Value} (h : Calls P f args w fun e w' => e = .returned v ∧ w = w') : Calls P f args w fun e w' => e = .returned v ∧ Below w.heap.size w w' :=
  h.mono fun _ _ ⟨he, hw⟩ => ⟨he, by subst hw; exact Below.refl _ _⟩

set_option maxHeartbeats 4000000 in
theorem walk_not (A : Option Addr) (l : List (Int × Int)) (c : Nat) (n h r : Int) (w : World) (hl : l.length ≤ maxLen) (hn : 70 < l.length ∨ (500 < n ∧ n ≤ 4096)) :
    Calls Try.prog 6 #[.slice A l.length c, .int .i64 n, .agg #[.int .i64 h, .int .i64 r]] w fun e w' => e = .returned (.bool true) ∧ Below w.heap.size w w' := by
  unfold maxLen at hl
  have hb0 : Below w.heap.size w (w.alloc (.cells #[.int .i64 h, .int .i64 r] 40)) := (by (first | assumption | (repeat (first | exact Below.refl _ _ | assumption | apply Below.drew | apply below_drewN | (refine Below.setCell ?_ (by (try simp) <;> omega) _) | (refine Below.alloc ?_ (by (try simp) <;> omega) _)))))
  by_cases h1 : 70 < l.length
  · clear hn
    go_enter Try.func6, Try.ntmps6
    go_wp2_with fail
    refine (alive_any _).mono ?_; rintro e w1 ⟨rfl, hb1⟩
    go_wp2_with fail
    go_ret
    exact ⟨rfl, hb0.trans (hb1.mono (by simp))⟩
  · have e1 : decide ((70 : Int) < (l.length : Int)) = false := by simp; omega
    obtain ⟨h2, h3⟩ : 500 < n ∧ n ≤ 4096 := hn.resolve_left h1
    clear hn
    go_enter Try.func6, Try.ntmps6
    go_wp2_with fail
    refine (alive_any _).mono ?_; rintro e w1 ⟨rfl, hb1⟩
    go_wp2_with fail
    go_ret
    exact ⟨rfl, hb0.trans (hb1.mono (by simp))⟩

set_option maxHeartbeats 8000000 in
theorem walk_yes (A : Option Addr) (l : List (Int × Int)) (c : Nat) (n h r : Int) (w : World) (hl : l.length ≤ maxLen) (hl2 : l.length ≤ 70) (hn : n ≤ 500 ∨ 4096 < n) (hA : Sl w w.heap.size 2 A l.length (vCells l)) (hT : ∃ T, turnV h r = T) :
    Calls Try.prog 6 #[.slice A l.length c, .int .i64 n, .agg #[.int .i64 h, .int .i64 r]] w fun e w' => e = .returned (.bool true) ∧ Below w.heap.size w w' := by
  obtain ⟨w0, hw0⟩ : ∃ w0, w.alloc (.cells #[.int .i64 h, .int .i64 r] 40) = w0 := ⟨_, rfl⟩
  have hb0 : Below w.heap.size w w0 := by rw [← hw0]; exact (by (first | assumption | (repeat (first | exact Below.refl _ _ | assumption | apply Below.drew | apply below_drewN | (refine Below.setCell ?_ (by (try simp) <;> omega) _) | (refine Below.alloc ?_ (by (try simp) <;> omega) _)))))
  have hbk : Bk w0 w.heap.size 40 #[.int .i64 h, .int .i64 r] := by rw [← hw0]; exact Bk.new w _ _
  have hz0 : w0.heap.size = w.heap.size + 1 := by rw [← hw0]; simp
  have hlen : (orderV l n).1.length ≤ 4096 := by
    unfold orderV
    split
    · simp
    · split
      · simp
      · simp; omega
  have HO := Lib.hid (fun (w1 : World) (hb : Below w.heap.size w w1) => order_any A l c n w1 hl ((hA.below hb).more hb.size))
  have HRO := Lib.hid (fun (w1 : World) (hb : Below w.heap.size w w1) => refOrder_any A l c n w1 hl ((hA.below hb).more hb.size))
  have HP := Lib.hid (fun (w1 : World) (hb : Below w.heap.size w w1) => prop_any A l c n w1 hl ((hA.below hb).more hb.size))
  have HRP := Lib.hid (fun (w1 : World) (hb : Below w.heap.size w w1) => refProp_any A l c n w1 hl ((hA.below hb).more hb.size))
  obtain ⟨T, hTe⟩ := hT
  have HT1 := Lib.hid (fun (W : World) => same_w (turn_any h r W))
  have HT2 := Lib.hid (fun (W : World) => same_w (refTurn_any h r W))
  rw [hTe] at HT1 HT2
  obtain ⟨ks, hks⟩ : ∃ ks, (orderV l n).1 = ks := ⟨_, rfl⟩
  obtain ⟨e1, he1⟩ : ∃ e1, (orderV l n).2 = e1 := ⟨_, rfl⟩
  obtain ⟨p1, hp1⟩ : ∃ p1, (propV l n).1 = p1 := ⟨_, rfl⟩
  obtain ⟨e2, he2⟩ : ∃ e2, (propV l n).2 = e2 := ⟨_, rfl⟩
  rw [hks, he1] at HO HRO
  rw [hp1, he2] at HP HRP
  rw [hks] at hlen
  have HW0 := Lib.hid hw0
  clear hw0 hTe hks he1 hp1 he2 hA
  unfold maxLen at hl
  have g1 : decide ((70 : Int) < (l.length : Int)) = false := by simp; omega
  have g2 : (e1 == e1) = true := by simp
  have g3 : (e2 == e2) = true := by simp
  have g4 : (p1 == p1) = true := by simp
  have g5 : (T == T) = true := by simp
  have main : Calls Try.prog 6 #[.slice A l.length c, .int .i64 n, .agg #[.int .i64 h, .int .i64 r]] w fun e w' => e = .returned (.bool true) ∧ Below w.heap.size w w' := by
    rcases hn with hn | hn
    · have g6 : decide ((500 : Int) < n) = false := by simp; omega
      go_enter Try.func6, Try.ntmps6
      go_wp2_with fail
      rw [HW0.out]
      with_reducible refine (HO.out _ hb0).mono ?_
      rintro e w1 ⟨v, rfl, hrow, hb1⟩
      obtain ⟨A1, c1, rfl, ha1, ha2, hs1⟩ := own_sl hrow
      have hb1' := hb0.trans (hb1.mono hb0.size)
      have HS1 := Lib.hid hs1
      clear hrow hs1
      go_wp2_with fail
      with_reducible refine (HRO.out _ hb1').mono ?_
      rintro e w2 ⟨v, rfl, hrow, hb2⟩
      obtain ⟨A2, c2, rfl, ha3, ha4, hs2⟩ := own_sl hrow
      have hb2' := step_b hb1' hb2
      have HS2 := Lib.hid hs2
      clear hrow hs2
      go_wp2_with fail
      with_reducible refine (HP.out _ hb2').mono ?_
      rintro e w3 ⟨rfl, hb3⟩
      have hb3' := step_b hb2' hb3
      go_wp2_with fail
      with_reducible refine (HRP.out _ hb3').mono ?_
      rintro e w4 ⟨rfl, hb4⟩
      have hb4' := step_b hb3' hb4
      have hSA := (same_any A1 A2 ks ks c1 c2 w4 (by unfold maxLen; omega) (by unfold maxLen; omega) ((HS1.out.below (step_b hb2 (step_b hb3 hb4))).more (step_b hb2 (step_b hb3 hb4)).size) ((HS2.out.below (step_b hb3 hb4)).more (step_b hb3 hb4).size))
      simp only [decide_true] at hSA
      have HSA := Lib.hid hSA
      clear hSA
      go_wp2_with fail
      with_reducible refine HSA.out.mono ?_
      rintro e w5 ⟨rfl, hb5⟩
      have hb5' := step_b hb4' hb5
      have hkk : Bk w5 w.heap.size 40 #[.int .i64 h, .int .i64 r] := (((((hbk.below hb1 (by omega)).below hb2 (by have := hb1.size; omega)).below hb3 (by have := hb1.size; have := hb2.size; omega)).below hb4 (by have := hb1.size; have := hb2.size; have := hb3.size; omega))).below hb5 (by have := hb1.size; have := hb2.size; have := hb3.size; have := hb4.size; omega)
      have k0 : ∀ x : BW w5, x.val.cell? ⟨w.heap.size, 0, none⟩ = some (.int .i64 h) := fun x => x.cell (hkk.cell 0) hkk.lt
      have k1 : ∀ x : BW w5, x.val.cell? ⟨w.heap.size, 1, none⟩ = some (.int .i64 r) := fun x => x.cell (hkk.cell 1) hkk.lt
      clear hkk
      go_wp2_with fail
      refine wp_region_bw (by kernel_rfl) (by kernel_rfl) ?_
      repeat (go_big_quiet_step (first | exact quiet_bw _ (alive_any _) | exact quiet_bw _ (HT1.out _) | exact quiet_bw _ (HT2.out _)))
      refine wpQuiet_nil ?_; intro _ hwq; obtain ⟨⟨wq, hbq⟩, hwq'⟩ := hwq; subst hwq'
      go_wp2_with fail
      go_ret
      exact ⟨rfl, step_b hb5' hbq⟩
    · have g6 : decide ((500 : Int) < n) = true := by simp; omega
      have g7 : decide (n ≤ 4096) = false := by simp; omega
      go_enter Try.func6, Try.ntmps6
      go_wp2_with fail
      rw [HW0.out]
      with_reducible refine (HO.out _ hb0).mono ?_
      rintro e w1 ⟨v, rfl, hrow, hb1⟩
      obtain ⟨A1, c1, rfl, ha1, ha2, hs1⟩ := own_sl hrow
      have hb1' := hb0.trans (hb1.mono hb0.size)
      have HS1 := Lib.hid hs1
      clear hrow hs1
      go_wp2_with fail
      with_reducible refine (HRO.out _ hb1').mono ?_
      rintro e w2 ⟨v, rfl, hrow, hb2⟩
      obtain ⟨A2, c2, rfl, ha3, ha4, hs2⟩ := own_sl hrow
      have hb2' := step_b hb1' hb2
      have HS2 := Lib.hid hs2
      clear hrow hs2
      go_wp2_with fail
      with_reducible refine (HP.out _ hb2').mono ?_
      rintro e w3 ⟨rfl, hb3⟩
      have hb3' := step_b hb2' hb3
      go_wp2_with fail
      with_reducible refine (HRP.out _ hb3').mono ?_
      rintro e w4 ⟨rfl, hb4⟩
      have hb4' := step_b hb3' hb4
      have hSA := (same_any A1 A2 ks ks c1 c2 w4 (by unfold maxLen; omega) (by unfold maxLen; omega) ((HS1.out.below (step_b hb2 (step_b hb3 hb4))).more (step_b hb2 (step_b hb3 hb4)).size) ((HS2.out.below (step_b hb3 hb4)).more (step_b hb3 hb4).size))
      simp only [decide_true] at hSA
      have HSA := Lib.hid hSA
      clear hSA
      go_wp2_with fail
      with_reducible refine HSA.out.mono ?_
      rintro e w5 ⟨rfl, hb5⟩
      have hb5' := step_b hb4' hb5
      have hkk : Bk w5 w.heap.size 40 #[.int .i64 h, .int .i64 r] := (((((hbk.below hb1 (by omega)).below hb2 (by have := hb1.size; omega)).below hb3 (by have := hb1.size; have := hb2.size; omega)).below hb4 (by have := hb1.size; have := hb2.size; have := hb3.size; omega))).below hb5 (by have := hb1.size; have := hb2.size; have := hb3.size; have := hb4.size; omega)
      have k0 : ∀ x : BW w5, x.val.cell? ⟨w.heap.size, 0, none⟩ = some (.int .i64 h) := fun x => x.cell (hkk.cell 0) hkk.lt
      have k1 : ∀ x : BW w5, x.val.cell? ⟨w.heap.size, 1, none⟩ = some (.int .i64 r) := fun x => x.cell (hkk.cell 1) hkk.lt
      clear hkk
      go_wp2_with fail
      refine wp_region_bw (by kernel_rfl) (by kernel_rfl) ?_
      repeat (go_big_quiet_step (first | exact quiet_bw _ (alive_any _) | exact quiet_bw _ (HT1.out _) | exact quiet_bw _ (HT2.out _)))
      refine wpQuiet_nil ?_; intro _ hwq; obtain ⟨⟨wq, hbq⟩, hwq'⟩ := hwq; subst hwq'
      go_wp2_with fail
      go_ret
      exact ⟨rfl, step_b hb5' hbq⟩
  exact main

theorem walk (A : Option Addr) (l : List (Int × Int)) (c : Nat) (hl : l.length ≤ c) (hcm : c ≤ maxLen) {w : World} (hA : Sl w w.heap.size 2 A l.length (vCells l)) (hwf : ∀ x ∈ l, (Lit.int .u64 x.1).wf = true ∧ (Lit.int .i64 x.2).wf = true) (n : Int) (hn : (Lit.int .i64 n).wf = true) (h r : Int) (_ : (Lit.int .i64 h).wf = true) (_ : (Lit.int .i64 r).wf = true) (_ : World) :
    Calls Try.prog 6 #[.slice A l.length c, .int .i64 n, .agg #[.int .i64 h, .int .i64 r]] w fun e w' => e = .returned (.bool true) ∧ Below w.heap.size w w' := by
  by_cases hn : 70 < l.length ∨ (500 < n ∧ n ≤ 4096)
  · exact walk_not A l c n h r w (Nat.le_trans hl hcm) hn
  · exact walk_yes A l c n h r w (Nat.le_trans hl hcm) (by omega) (by omega) hA ⟨_, rfl⟩

set_option maxRecDepth 100000 in
theorem lifted (os : Os) (started : os.Started) (H : Type) (enc : TypeId × Value → H) :
    ReturnsInHanded {} Try.checked os 6 .any (Rows.turnsOrderSpec.pre6 enc Try.prog Try.f6 Rows.turnsOrderRow.domain false) (Rows.turnsOrderSpec.post enc Try.prog Try.f6 false true false false) := by
  refine returnsInHanded_of_change (C := Try.checked) own started (by kernel_rfl) Try.func6
    (ChangeSpec.witness6 (enc := enc) (C := Try.checked) false ⟨#[], #[.slice none 0 0, .int .i64 0, .agg #[.int .i64 0, .int .i64 0]], []⟩ 8 (by kernel_rfl) (by kernel_rfl) (by kernel_rfl) (by kernel_rfl)) ?_
  intro W base args ds gs before hval0 hW hcnd _
  have hval : ∀ (j : Nat) t v, Try.f6.params[j]? = some t → args[j]? = some v → Value.okWide Try.prog W .any base t v := hval0
  have hW' := hW
  obtain ⟨p, q, hA0, hV, rfl, hfz, hnd⟩ := hW
  have hA : DataW.TrodAll enc Try.prog W 0 (fun _ => true) true Try.f6.params.toList args.toList ds p := hA0
  rw [Try.params6] at hA hval
  obtain ⟨v0, vs0, d0, ds0, p0, q0, hargs, rfl, rfl, h0, r0⟩ := trodAll_cons hA
  obtain ⟨v1, vs1, d1, ds1, p1, q1, rfl, rfl, rfl, h1, r1⟩ := trodAll_cons r0
  obtain ⟨v2, vs2, d2, ds2, p2, q2, rfl, rfl, rfl, h2, r2⟩ := trodAll_cons r1
  obtain ⟨rfl, rfl, rfl⟩ := trodAll_nil r2
  obtain rfl : args = #[v0, v1, v2] := by cases args; simp_all
  obtain ⟨rfl, rfl⟩ := trodVars_none hV
  have k0 := h0
  have lt0 : ∀ x ∈ p0, x.block < W.heap.size := by obtain ⟨m, hm⟩ := k0; exact DataW.trod_lt m _ _ _ hm
  have k1 := h1
  have lt1 : ∀ x ∈ p1, x.block < W.heap.size := by obtain ⟨m, hm⟩ := k1; exact DataW.trod_lt m _ _ _ hm
  have k2 := h2
  have lt2 : ∀ x ∈ p2, x.block < W.heap.size := by obtain ⟨m, hm⟩ := k2; exact DataW.trod_lt m _ _ _ hm
  obtain ⟨A0, l0, c0, rfl, u0, m0, s0, w0⟩ := open_vals (hval 0 22 v0 rfl rfl) h0 lt0
  obtain ⟨a1, rfl, _, _, w1⟩ := open_int Try.underlying3 (hval 1 3 v1 rfl rfl) h1
  obtain ⟨a2, b2, rfl, w2, x2⟩ := open_pair (hval 2 40 v2 rfl rfl) h2
  clear hA0 hval0
  refine (walk A0 l0 c0 u0 m0 s0 w0 a1 w1 a2 b2 w2 x2 W).mono fun e W' ⟨he, bel⟩ => ?_
  subst he
  exact ⟨_, rfl, _, _, _, [], _, [], hW', trodAll_mk1 (shut_bool Try.underlying4 _), (trodAll_cons_mk (Below.trod laidOut (by kernel_rfl) (of_decide_eq_true (by kernel_rfl)) k0 bel lt0) (trodAll_cons_mk (Below.trod laidOut (by kernel_rfl) (of_decide_eq_true (by kernel_rfl)) k1 bel lt1) (trodAll_cons_mk (Below.trod laidOut (by kernel_rfl) (of_decide_eq_true (by kernel_rfl)) k2 bel lt2) trodAll_mk0))), rfl, bel.frame _, fun h => by cases h⟩

theorem over : Rows.turnsOrderRow.holds Try.pinned (OpenSpec.ofChange Rows.turnsOrderSpec) :=
  OpenClaim.holds_of_wide 6 Try.f6 rfl rfl rfl rfl rfl rfl rfl ⟨rfl, rfl, rfl, rfl, rfl⟩ rfl rfl rfl rfl rfl (by kernel_rfl) Try.func6 (by kernel_rfl)
    (of_decide_eq_true (by kernel_rfl)) (by unfold Func.isWrapper; first | (rw [if_pos (by decide +kernel)]; kernel_rfl) | (rw [if_neg (by decide +kernel)]; exact ⟨rfl, rfl⟩))
    (fun os started H enc _ => lifted os started H enc)

/-- The statement. -/
theorem proved : Rows.TurnsOrderSaid := over
#print axioms proved
end Go.Proofs.Ytfnhlallfgfkkaa.turnsOrder
