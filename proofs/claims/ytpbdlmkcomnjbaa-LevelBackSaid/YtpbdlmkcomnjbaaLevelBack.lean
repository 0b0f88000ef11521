/- What this text proves: the statement LevelBack: for every number and every bits the law returns true and leaves its arguments as they were. No condition. -/
import Derived.Test.YtpbdlmkcomnjbaaRows
import Derived.Test.YtpbdlmkcomnjbaaOpenF
import Derived.Test.YtpbdlmkcomnjbaaLevJ
import Derived.ProofKit
import Derived.OpenShut
import Derived.ChangeOld
namespace Go.Proofs.Ytpbdlmkcomnjbaa.levelBack
open Go.ChangeShapes Go.WideShapes Go.ChangeAt Go.RowKit
set_option linter.unusedVariables false
set_option linter.unusedSimpArgs false

theorem bits_twice (f : Nat) : bitsF (bitsF f) = bitsF f := by
  unfold bitsF
  cases h : nanB f with
  | true => simp only [if_true]; decide
  | false => simp only [h, Bool.false_eq_true, if_false]
theorem of_bits (f : Nat) : ofF (bitsF f) = (bitsF f, 0) := by
  unfold ofF
  rw [if_pos (bits_twice f)]
theorem place_bits (f : Nat) : place (bitsF f) = place f := by
  unfold bitsF
  cases h : nanB f with
  | true => simp only [if_true]; rw [place_nan h]; decide
  | false => simp only [Bool.false_eq_true, if_false]
theorem walk (f : Nat) (hf : f < 18446744073709551616) (b : Nat) (hb : b < 18446744073709551616) (w : World) : Calls Try.prog 8 #[.float .f64 f, .int .u64 (b : Int)] w fun e w' => e = .returned (.bool true) ∧ Below w.heap.size w w' := by
  have H1 := Lib.hid (bits_any f hf)
  have H2 := Lib.hid (of_any (bitsF f) (bitsF_lt hf))
  rw [of_bits] at H2
  have H3 := Lib.hid (of_any b hb)
  have H4 := Lib.hid (order_any (bitsF f) f (bitsF_lt hf) hf)
  rw [place_bits, show cmpI (place f) (place f) = 0 from by unfold cmpI; simp] at H4
  obtain ⟨p, hp⟩ : ∃ p, bitsF f = p := ⟨_, rfl⟩
  rw [hp] at H1 H2 H4
  simp only at H2
  clear hp
  by_cases h : bitsF b = b
  · have e : ofF b = (b, 0) := by unfold ofF; rw [if_pos h]
    rw [e] at H3
    simp only at H3
    have H5 := Lib.hid (bits_any b hb)
    rw [h] at H5
    clear e h
    go_enter Try.func8, Try.ntmps8
    go_wp2_with fail
    with_reducible refine (H1.out _).mono ?_
    rintro e w1 ⟨rfl, rfl⟩
    go_wp2_with fail
    with_reducible refine (H2.out _).mono ?_
    rintro e w1 ⟨rfl, rfl⟩
    go_wp2_with fail
    with_reducible refine (H3.out _).mono ?_
    rintro e w1 ⟨rfl, rfl⟩
    go_wp2_with fail
    with_reducible refine (alive_any _).mono ?_
    rintro e v1 ⟨rfl, hbel⟩
    have HBL1 := Lib.hid hbel
    clear hbel
    go_wp2_with fail
    with_reducible refine (H4.out _).mono ?_
    rintro e w1 ⟨rfl, rfl⟩
    go_wp2_with fail
    with_reducible refine (H5.out _).mono ?_
    rintro e w1 ⟨rfl, rfl⟩
    go_wp2_with fail
    go_ret
    exact ⟨rfl, HBL1.out⟩
  · have e : ofF b = (0, 11) := by unfold ofF; rw [if_neg h]
    rw [e] at H3
    simp only at H3
    clear e h
    go_enter Try.func8, Try.ntmps8
    go_wp2_with fail
    with_reducible refine (H1.out _).mono ?_
    rintro e w1 ⟨rfl, rfl⟩
    go_wp2_with fail
    with_reducible refine (H2.out _).mono ?_
    rintro e w1 ⟨rfl, rfl⟩
    go_wp2_with fail
    with_reducible refine (H3.out _).mono ?_
    rintro e w1 ⟨rfl, rfl⟩
    go_wp2_with fail
    with_reducible refine (alive_any _).mono ?_
    rintro e v1 ⟨rfl, hbel⟩
    have HBL1 := Lib.hid hbel
    clear hbel
    go_wp2_with fail
    with_reducible refine (H4.out _).mono ?_
    rintro e w1 ⟨rfl, rfl⟩
    go_wp2_with fail
    go_ret
    exact ⟨rfl, HBL1.out⟩

set_option maxRecDepth 100000 in
theorem lifted (os : Os) (started : os.Started) (H : Type) (enc : TypeId × Value → H) :
    ReturnsInHanded {} Try.checked os 8 .any (Rows.levelBackSpec.pre6 enc Try.prog Try.f8 Rows.levelBackRow.domain false) (Rows.levelBackSpec.post enc Try.prog Try.f8 false true false false) := by
  refine returnsInHanded_of_change (C := Try.checked) own started (by kernel_rfl) Try.func8
    (ChangeSpec.witness6 (enc := enc) (C := Try.checked) false ⟨#[], #[.float .f64 0, .int .u64 0], []⟩ 8 (by kernel_rfl) (by kernel_rfl) (by kernel_rfl) (by kernel_rfl)) ?_
  intro W base args ds gs before hval0 hW hcnd _
  have hval : ∀ (j : Nat) t v, Try.f8.params[j]? = some t → args[j]? = some v → Value.okWide Try.prog W .any base t v := hval0
  have hW' := hW
  obtain ⟨p, q, hA0, hV, rfl, hfz, hnd⟩ := hW
  have hA : DataW.TrodAll enc Try.prog W 0 (fun _ => true) true Try.f8.params.toList args.toList ds p := hA0
  rw [Try.params8] at hA hval
  obtain ⟨v0, vs0, d0, ds0, p0, q0, hargs, rfl, rfl, h0, r0⟩ := trodAll_cons hA
  obtain ⟨v1, vs1, d1, ds1, p1, q1, rfl, rfl, rfl, h1, r1⟩ := trodAll_cons r0
  obtain ⟨rfl, rfl, rfl⟩ := trodAll_nil r1
  obtain rfl : args = #[v0, v1] := by cases args; simp_all
  obtain ⟨rfl, rfl⟩ := trodVars_none hV
  have k0 := h0
  have lt0 : ∀ x ∈ p0, x.block < W.heap.size := by obtain ⟨m, hm⟩ := k0; exact DataW.trod_lt m _ _ _ hm
  have k1 := h1
  have lt1 : ∀ x ∈ p1, x.block < W.heap.size := by obtain ⟨m, hm⟩ := k1; exact DataW.trod_lt m _ _ _ hm
  obtain ⟨a0, rfl, w0⟩ := open_f64 (hval 0 22 v0 rfl rfl) h0
  obtain ⟨a1, rfl, w1⟩ := open_u64n (hval 1 29 v1 rfl rfl) h1
  clear hA0 hval0
  refine (walk a0 w0 a1 w1 W).mono fun e W' ⟨he, bel⟩ => ?_
  subst he
  exact ⟨_, rfl, _, _, _, [], _, [], hW', trodAll_mk1 (shut_bool Try.underlying4 _), (trodAll_cons_mk (Below.trod laidOut (by kernel_rfl) (of_decide_eq_true (by kernel_rfl)) k0 bel lt0) (trodAll_cons_mk (Below.trod laidOut (by kernel_rfl) (of_decide_eq_true (by kernel_rfl)) k1 bel lt1) trodAll_mk0)), rfl, bel.frame _, fun h => by cases h⟩

theorem over : Rows.levelBackRow.holds Try.pinned (OpenSpec.ofChange Rows.levelBackSpec) :=
  OpenClaim.holds_of_wide 8 Try.f8 rfl rfl rfl rfl rfl rfl rfl ⟨rfl, rfl, rfl, rfl, rfl⟩ rfl rfl rfl rfl rfl (by kernel_rfl) Try.func8 (by kernel_rfl)
    (of_decide_eq_true (by kernel_rfl)) (by unfold Func.isWrapper; first | (rw [if_pos (by decide +kernel)]; kernel_rfl) | (rw [if_neg (by decide +kernel)]; exact ⟨rfl, rfl⟩))
    (fun os started H enc _ => lifted os started H enc)

/-- The statement. -/
theorem proved : Rows.LevelBackSaid := over
#print axioms proved
end Go.Proofs.Ytpbdlmkcomnjbaa.levelBack
