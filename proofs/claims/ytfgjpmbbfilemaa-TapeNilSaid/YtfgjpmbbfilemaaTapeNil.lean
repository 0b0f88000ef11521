/- What this text proves: the statement TapeNil: for every operation the law returns true and leaves its argument as it was. No condition. -/
import Derived.Test.YtfgjpmbbfilemaaRows
import Derived.Test.YtfgjpmbbfilemaaOpenOp
import Derived.Test.YtfgjpmbbfilemaaTapeAlive
import Derived.Test.YtfgjpmbbfilemaaQuiet
namespace Go.Proofs.Ytfgjpmbbfilemaa.tapeNil
open Go.ChangeShapes Go.WideShapes Go.ChangeAt Go.RowKit Go.BigFrame
set_option linter.unusedVariables false
set_option linter.unusedSimpArgs false

set_option maxHeartbeats 1000000 in
theorem walk (o : OpV) {w0 : World} (g : o.good w0) (w : World) : Calls Try.prog 6 #[.agg o.cells.toArray] w fun e w' => e = .returned (.bool true) ∧ Below w.heap.size w w' := by
  have HA := Lib.hid (fun w => alive_any w)
  have H1 := Lib.hid (fun w => nil_append o.A o.b.length o.c w)
  have H2 := Lib.hid (fun w => nil_sync w)
  have H3 := Lib.hid (fun w => nil_trim o.n w)
  have H4 := Lib.hid (fun w => nil_read w)
  have H5 := Lib.hid (fun w => nil_safe w)
  have H6 := Lib.hid (fun w => nil_calls w)
  have H7 := Lib.hid (fun w => nil_cut o.n o.m w)
  have hc : o.cells.toArray = #[.int .i64 o.k, .int .i64 o.n, .int .i64 o.m, .slice o.A o.b.length o.c] := rfl
  rw [hc]
  go_enter Try.func6, Try.ntmps6
  go_wp2_with fail
  with_reducible refine (HA.out _).mono ?_
  rintro e w1 ⟨rfl, hb⟩
  have hb0 : Below w.heap.size w (w.alloc (.cells #[.int .i64 o.k, .int .i64 o.n, .int .i64 o.m, .slice o.A o.b.length o.c] 35)) := (by (first | assumption | (repeat (first | exact Below.refl _ _ | assumption | apply Below.drew | apply below_drewN | (refine Below.setCell ?_ (by (try simp) <;> omega) _) | (refine Below.alloc ?_ (by (try simp) <;> omega) _)))))
  have hbk : Bk w1 w.heap.size 35 #[.int .i64 o.k, .int .i64 o.n, .int .i64 o.m, .slice o.A o.b.length o.c] := (Bk.new w _ _).below hb (by simp)
  have c1 := hbk.cell 1
  have c2 := hbk.cell 2
  have c3 := hbk.cell 3
  have hb1 := step_b hb0 hb
  clear hb hb0
  go_wp2_with fail
  with_reducible refine (H1.out _).mono ?_
  rintro e _ ⟨rfl, rfl⟩
  go_wp2_with fail
  with_reducible refine (H2.out _).mono ?_
  rintro e _ ⟨rfl, rfl⟩
  go_wp2_with fail
  with_reducible refine (H3.out _).mono ?_
  rintro e _ ⟨rfl, rfl⟩
  go_wp2_with fail
  with_reducible refine (H4.out _).mono ?_
  rintro e _ ⟨rfl, rfl⟩
  go_wp2_with fail
  with_reducible refine (H5.out _).mono ?_
  rintro e _ ⟨rfl, rfl⟩
  go_wp2_with fail
  with_reducible refine (H6.out _).mono ?_
  rintro e _ ⟨rfl, rfl⟩
  go_wp2_with fail
  with_reducible refine (H7.out _).mono ?_
  rintro e _ ⟨rfl, rfl⟩
  go_wp2_with fail
  go_ret
  exact ⟨rfl, hb1⟩

set_option maxRecDepth 100000 in
theorem lifted (os : Os) (started : os.Started) (H : Type) (enc : TypeId × Value → H) :
    ReturnsInHanded {} Try.checked os 6 .any (Rows.tapeNilSpec.pre6 enc Try.prog Try.f6 Rows.tapeNilRow.domain false) (Rows.tapeNilSpec.post enc Try.prog Try.f6 false true false false) := by
  refine returnsInHanded_of_change (C := Try.checked) own started (by kernel_rfl) Try.func6
    (ChangeSpec.witness6 (enc := enc) (C := Try.checked) false ⟨#[], #[.agg #[.int .i64 0, .int .i64 0, .int .i64 0, .slice none 0 0]], []⟩ 8 (by kernel_rfl) (by kernel_rfl) (by kernel_rfl) (by kernel_rfl)) ?_
  intro W base args ds gs before hval0 hW hcnd _
  have hval : ∀ (j : Nat) t v, Try.f6.params[j]? = some t → args[j]? = some v → Value.okWide Try.prog W .any base t v := hval0
  have hW' := hW
  obtain ⟨p, q, hA0, hV, rfl, hfz, hnd⟩ := hW
  have hA : DataW.TrodAll enc Try.prog W 0 (fun _ => true) true Try.f6.params.toList args.toList ds p := hA0
  rw [Try.params6] at hA hval
  obtain ⟨v0, vs0, d0, ds0, p0, q0, hargs, rfl, rfl, h0, r0⟩ := trodAll_cons hA
  obtain ⟨rfl, rfl, rfl⟩ := trodAll_nil r0
  obtain rfl : args = #[v0] := by cases args; simp_all
  obtain ⟨rfl, rfl⟩ := trodVars_none hV
  have k0 := h0
  have lt0 : ∀ x ∈ p0, x.block < W.heap.size := by obtain ⟨m, hm⟩ := k0; exact DataW.trod_lt m _ _ _ hm
  obtain ⟨o0, rfl, g0⟩ := open_op (hval 0 35 v0 rfl rfl) h0
  clear hA0 hval0
  refine (walk o0 g0 W).mono fun e W' ⟨he, bel⟩ => ?_
  subst he
  exact ⟨_, rfl, _, _, _, [], _, [], hW', trodAll_mk1 (shut_bool Try.underlying4 _), (trodAll_cons_mk (Below.trod laidOut (by kernel_rfl) (of_decide_eq_true (by kernel_rfl)) k0 bel lt0) trodAll_mk0), rfl, bel.frame _, fun h => by cases h⟩

theorem over : Rows.tapeNilRow.holds Try.pinned (OpenSpec.ofChange Rows.tapeNilSpec) :=
  OpenClaim.holds_of_wide 6 Try.f6 rfl rfl rfl rfl rfl rfl rfl ⟨rfl, rfl, rfl, rfl, rfl⟩ rfl rfl rfl rfl rfl (by kernel_rfl) Try.func6 (by kernel_rfl)
    (of_decide_eq_true (by kernel_rfl)) (by unfold Func.isWrapper; first | (rw [if_pos (by decide +kernel)]; kernel_rfl) | (rw [if_neg (by decide +kernel)]; exact ⟨rfl, rfl⟩))
    (fun os started H enc _ => lifted os started H enc)

/-- The statement. -/
theorem proved : Rows.TapeNilSaid := over
#print axioms proved
end Go.Proofs.Ytfgjpmbbfilemaa.tapeNil
