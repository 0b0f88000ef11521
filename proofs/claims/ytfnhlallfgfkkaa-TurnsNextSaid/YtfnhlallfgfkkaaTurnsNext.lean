/- What this text proves: the statement TurnsNext: for every height and round the law returns true and leaves its arguments as they were. No condition. -/
import Derived.Test.YtfnhlallfgfkkaaRows
import Derived.Test.YtfnhlallfgfkkaaTurnsAlive
import Derived.ProofKit
import Derived.OpenShut
import Derived.ChangeOld
namespace Go.Proofs.Ytfnhlallfgfkkaa.turnsNext
open Go.ChangeShapes Go.WideShapes Go.ChangeAt Go.RowKit
set_option linter.unusedVariables false

theorem turnV_bad {h r : Int} (b : h < 1 ∨ 1099511627776 < h ∨ r < 0 ∨ 1048576 < r) : turnV h r = 0 := by rw [turnV, if_pos b]
theorem turnV_ok {h r : Int} (b : ¬ (h < 1 ∨ 1099511627776 < h ∨ r < 0 ∨ 1048576 < r)) : turnV h r = (h + r) % 4096 := by rw [turnV, if_neg b]

set_option maxHeartbeats 1000000 in
theorem walk_bad (h r : Int) (w : World) (b : h < 1 ∨ 1099511627776 < h ∨ r < 0 ∨ 1048576 < r) :
    Calls Try.prog 4 #[.int .i64 h, .int .i64 r] w fun e w' => e = .returned (.bool true) ∧ Below w.heap.size w w' := by
  have H0 := Lib.hid (fun w => turn_any h r w)
  rw [turnV_bad b] at H0
  have HB := Lib.hid b
  clear b
  by_cases h1 : 1 ≤ h
  · by_cases h2 : h ≤ 1099511627776
    · by_cases h3 : 0 ≤ r
      · by_cases h4 : r ≤ 1048576
        · exfalso; have := HB.out; omega
        · have h4' : decide (r ≤ 1048576) = false := by simp; omega
          clear HB
          go_enter Try.func4, Try.ntmps4
          go_wp2_with fail
          refine (H0.out _).mono ?_; rintro e w' ⟨rfl, rfl⟩
          go_wp2_with fail
          refine (alive_any _).mono ?_; rintro e w1 ⟨rfl, hb1⟩
          go_wp2_with fail
          go_ret
          exact ⟨rfl, hb1⟩
      · clear HB
        go_enter Try.func4, Try.ntmps4
        go_wp2_with fail
        refine (H0.out _).mono ?_; rintro e w' ⟨rfl, rfl⟩
        go_wp2_with fail
        refine (alive_any _).mono ?_; rintro e w1 ⟨rfl, hb1⟩
        go_wp2_with fail
        go_ret
        exact ⟨rfl, hb1⟩
    · clear HB
      go_enter Try.func4, Try.ntmps4
      go_wp2_with fail
      refine (H0.out _).mono ?_; rintro e w' ⟨rfl, rfl⟩
      go_wp2_with fail
      refine (alive_any _).mono ?_; rintro e w1 ⟨rfl, hb1⟩
      go_wp2_with fail
      go_ret
      exact ⟨rfl, hb1⟩
  · clear HB
    go_enter Try.func4, Try.ntmps4
    go_wp2_with fail
    refine (H0.out _).mono ?_; rintro e w' ⟨rfl, rfl⟩
    go_wp2_with fail
    refine (alive_any _).mono ?_; rintro e w1 ⟨rfl, hb1⟩
    go_wp2_with fail
    go_ret
    exact ⟨rfl, hb1⟩

set_option maxHeartbeats 2000000 in
theorem walk (h r : Int) (w : World) :
    Calls Try.prog 4 #[.int .i64 h, .int .i64 r] w fun e w' => e = .returned (.bool true) ∧ Below w.heap.size w w' := by
  by_cases b : h < 1 ∨ 1099511627776 < h ∨ r < 0 ∨ 1048576 < r
  · exact walk_bad h r w b
  · have H0 := Lib.hid (fun w => turn_any h r w)
    have H1 := Lib.hid (fun w => turn_any h (r + 1) w)
    have H2 := Lib.hid (fun w => turn_any (h + 1) r w)
    have t0 : turnV h r = (h + r) % 4096 := turnV_ok b
    have t1 : r < 1048576 → turnV h (r + 1) = ((h + r) % 4096 + 1) % 4096 := fun hr => by rw [turnV_ok (by omega)]; omega
    have t2 : h < 1099511627776 → turnV (h + 1) r = ((h + r) % 4096 + 1) % 4096 := fun hr => by rw [turnV_ok (by omega)]; omega
    rw [t0] at H0
    obtain ⟨T0, hT0⟩ : ∃ T0, (h + r) % 4096 = T0 := ⟨_, rfl⟩
    have b0 : 0 ≤ T0 ∧ T0 < 4096 := by omega
    obtain ⟨b01, b02⟩ := b0
    have a1 : 1 ≤ h := by omega
    have a2 : h ≤ 1099511627776 := by omega
    have a3 : 0 ≤ r := by omega
    have a4 : r ≤ 1048576 := by omega
    have e1 : ((T0 + 1) % 4096 == (T0 + 1) % 4096) = true := by simp
    rw [hT0] at H0 t1 t2
    clear b t0 hT0
    by_cases c1 : r < 1048576
    · rw [t1 c1] at H1
      clear t1
      by_cases c2 : h < 1099511627776
      · rw [t2 c2] at H2
        clear t2
        go_enter Try.func4, Try.ntmps4
        go_wp2_with fail
        refine (H0.out _).mono ?_; rintro e w' ⟨rfl, rfl⟩
        go_wp2_with fail
        refine (H1.out _).mono ?_; rintro e w' ⟨rfl, rfl⟩
        go_wp2_with fail
        refine (H2.out _).mono ?_; rintro e w' ⟨rfl, rfl⟩
        go_wp2_with fail
        refine (alive_any _).mono ?_; rintro e w1 ⟨rfl, hb1⟩
        go_wp2_with fail
        go_ret
        exact ⟨rfl, hb1⟩
      · clear t2 H2
        go_enter Try.func4, Try.ntmps4
        go_wp2_with fail
        refine (H0.out _).mono ?_; rintro e w' ⟨rfl, rfl⟩
        go_wp2_with fail
        refine (H1.out _).mono ?_; rintro e w' ⟨rfl, rfl⟩
        go_wp2_with fail
        refine (alive_any _).mono ?_; rintro e w1 ⟨rfl, hb1⟩
        go_wp2_with fail
        go_ret
        exact ⟨rfl, hb1⟩
    · clear t1 H1
      by_cases c2 : h < 1099511627776
      · rw [t2 c2] at H2
        clear t2
        go_enter Try.func4, Try.ntmps4
        go_wp2_with fail
        refine (H0.out _).mono ?_; rintro e w' ⟨rfl, rfl⟩
        go_wp2_with fail
        refine (H2.out _).mono ?_; rintro e w' ⟨rfl, rfl⟩
        go_wp2_with fail
        refine (alive_any _).mono ?_; rintro e w1 ⟨rfl, hb1⟩
        go_wp2_with fail
        go_ret
        exact ⟨rfl, hb1⟩
      · clear t2 H2
        go_enter Try.func4, Try.ntmps4
        go_wp2_with fail
        refine (H0.out _).mono ?_; rintro e w' ⟨rfl, rfl⟩
        go_wp2_with fail
        refine (alive_any _).mono ?_; rintro e w1 ⟨rfl, hb1⟩
        go_wp2_with fail
        go_ret
        exact ⟨rfl, hb1⟩

theorem own : ownKnob Try.prog.godebug = none := by kernel_rfl
theorem laidOut : laidOutB Try.prog = true := by kernel_rfl

set_option maxRecDepth 100000 in
theorem lifted (os : Os) (started : os.Started) (H : Type) (enc : TypeId × Value → H) :
    ReturnsInHanded {} Try.checked os 4 .any (Rows.turnsNextSpec.pre6 enc Try.prog Try.f4 Rows.turnsNextRow.domain false) (Rows.turnsNextSpec.post enc Try.prog Try.f4 false true false false) := by
  refine returnsInHanded_of_change (C := Try.checked) own started (by kernel_rfl) Try.func4
    (ChangeSpec.witness6 (enc := enc) (C := Try.checked) false ⟨#[], #[.int .i64 0, .int .i64 0], []⟩ 8 (by kernel_rfl) (by kernel_rfl) (by kernel_rfl) (by kernel_rfl)) ?_
  intro W base args ds gs before hval0 hW hcnd _
  have hval : ∀ (j : Nat) t v, Try.f4.params[j]? = some t → args[j]? = some v → Value.okWide Try.prog W .any base t v := hval0
  have hW' := hW
  obtain ⟨p, q, hA0, hV, rfl, hfz, hnd⟩ := hW
  have hA : DataW.TrodAll enc Try.prog W 0 (fun _ => true) true Try.f4.params.toList args.toList ds p := hA0
  rw [Try.params4] at hA hval
  obtain ⟨v0, vs0, d0, ds0, p0, q0, hargs, rfl, rfl, h0, r0⟩ := trodAll_cons hA
  obtain ⟨v1, vs1, d1, ds1, p1, q1, rfl, rfl, rfl, h1, r1⟩ := trodAll_cons r0
  obtain ⟨rfl, rfl, rfl⟩ := trodAll_nil r1
  obtain rfl : args = #[v0, v1] := by cases args; simp_all
  obtain ⟨rfl, rfl⟩ := trodVars_none hV
  have k0 := h0
  have lt0 : ∀ x ∈ p0, x.block < W.heap.size := by obtain ⟨m, hm⟩ := k0; exact DataW.trod_lt m _ _ _ hm
  have k1 := h1
  have lt1 : ∀ x ∈ p1, x.block < W.heap.size := by obtain ⟨m, hm⟩ := k1; exact DataW.trod_lt m _ _ _ hm
  obtain ⟨a0, rfl, _, _, w0⟩ := open_int Try.underlying3 (hval 0 3 v0 rfl rfl) h0
  obtain ⟨a1, rfl, _, _, w1⟩ := open_int Try.underlying3 (hval 1 3 v1 rfl rfl) h1
  clear hA0 hval0
  refine (walk a0 a1 W).mono fun e W' ⟨he, bel⟩ => ?_
  subst he
  exact ⟨_, rfl, _, _, _, [], _, [], hW', trodAll_mk1 (shut_bool Try.underlying4 _), (trodAll_cons_mk (Below.trod laidOut (by kernel_rfl) (of_decide_eq_true (by kernel_rfl)) k0 bel lt0) (trodAll_cons_mk (Below.trod laidOut (by kernel_rfl) (of_decide_eq_true (by kernel_rfl)) k1 bel lt1) trodAll_mk0)), rfl, bel.frame _, fun h => by cases h⟩

theorem over : Rows.turnsNextRow.holds Try.pinned (OpenSpec.ofChange Rows.turnsNextSpec) :=
  OpenClaim.holds_of_wide 4 Try.f4 rfl rfl rfl rfl rfl rfl rfl ⟨rfl, rfl, rfl, rfl, rfl⟩ rfl rfl rfl rfl rfl (by kernel_rfl) Try.func4 (by kernel_rfl)
    (of_decide_eq_true (by kernel_rfl)) (by unfold Func.isWrapper; first | (rw [if_pos (by decide +kernel)]; kernel_rfl) | (rw [if_neg (by decide +kernel)]; exact ⟨rfl, rfl⟩))
    (fun os started H enc _ => lifted os started H enc)

/-- The statement. -/
theorem proved : Rows.TurnsNextSaid := over
#print axioms proved
end Go.Proofs.Ytfnhlallfgfkkaa.turnsNext
