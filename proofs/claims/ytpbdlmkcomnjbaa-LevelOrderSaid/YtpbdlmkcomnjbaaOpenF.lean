/- What this text proves: how an argument of type float64, [2]float64 or [2]int reads. No condition. -/
import Derived.Test.YtpbdlmkcomnjbaaOwn
import Derived.Lib.SmallJoins
import Derived.OpenShut
namespace Go.Proofs.Ytpbdlmkcomnjbaa
open Go.ChangeShapes Go.WideShapes Go.ChangeAt Go.RowKit Go.Deep Go.Joins
set_option linter.unusedVariables false
set_option linter.unusedSimpArgs false

theorem okWide_float {P : Program} {w : World} {r : Reach} {base : Nat} {t : TypeId} {k : FloatKind} {v : Value} (ht : P.underlying t = some (.float k)) (h : Value.okWide P w r base t v) : ∃ n, v = .float k n := by
  simp only [Value.okWide, ht, Cell.okWide] at h
  cases v <;> simp_all [Cell.ok]
section
variable {H : Type} {enc : TypeId × Value → H} {w : World}
theorem trod_float {P : Program} {base fuel : Nat} {spare : Nat → Bool} {held : Bool} {t : TypeId} {k : FloatKind} {cs : List Value} {x : DataW H × List MemPlace} (ht : P.underlying t = some (.float k)) (h : DataW.trod enc P w base spare held fuel t cs = some x) : ∃ n, cs = [.float k n] ∧ (Lit.float k n).wf = true := by
  cases fuel with
  | zero => simp [DataW.trod] at h
  | succ n =>
    unfold DataW.trod at h
    rw [ht] at h
    split at h <;> simp_all
theorem bits_lt {n : Nat} (h : (Lit.float .f64 n).wf = true) : n < 18446744073709551616 := by
  simpa [Lit.wf] using h
theorem open_f64 {base b0 : Nat} {spare : Nat → Bool} {held : Bool} {r : Reach} {v : Value} {d : DataW H} {p : List MemPlace} (hv : Value.okWide Try.prog w r b0 22 v) (h : DataW.Trod enc Try.prog w base spare held 22 v d p) : ∃ b : Nat, v = .float .f64 b ∧ b < 18446744073709551616 := by
  obtain ⟨n, rfl⟩ := okWide_float Try.underlying22 hv
  obtain ⟨fuel, hf⟩ := h
  obtain ⟨m, hm, hw⟩ := trod_float Try.underlying22 hf
  simp [Value.cells] at hm
  subst hm
  exact ⟨n, rfl, bits_lt hw⟩
theorem open_u64n {base b0 : Nat} {spare : Nat → Bool} {held : Bool} {r : Reach} {v : Value} {d : DataW H} {p : List MemPlace} (hv : Value.okWide Try.prog w r b0 29 v) (h : DataW.Trod enc Try.prog w base spare held 29 v d p) : ∃ a : Nat, v = .int .u64 (a : Int) ∧ a < 18446744073709551616 := by
  obtain ⟨k, rfl, _, _, hw⟩ := open_int Try.underlying29 hv h
  have h2 : 0 ≤ k ∧ k < 18446744073709551616 := by have := bounds_u64 hw; omega
  exact ⟨k.toNat, by congr 1; omega, by omega⟩
theorem open_i64 {base b0 : Nat} {spare : Nat → Bool} {held : Bool} {r : Reach} {v : Value} {d : DataW H} {p : List MemPlace} (hv : Value.okWide Try.prog w r b0 3 v) (h : DataW.Trod enc Try.prog w base spare held 3 v d p) : ∃ a : Int, v = .int .i64 a ∧ -9223372036854775808 ≤ a ∧ a ≤ 9223372036854775807 := by
  obtain ⟨k, rfl, _, _, hw⟩ := open_int Try.underlying3 hv h
  have h2 : -9223372036854775808 ≤ k ∧ k ≤ 9223372036854775807 := bounds_i64 hw
  exact ⟨k, rfl, h2.1, h2.2⟩
theorem okWide_array {P : Program} {r : Reach} {base n : Nat} {t e : TypeId} {v : Value} (ht : P.underlying t = some (.array n e)) (h : Value.okWide P w r base t v) : ∃ cs, v = .agg cs ∧ cs.size = P.cellsOf t := by
  simp only [Value.okWide, ht] at h
  obtain ⟨cs, h1, h2, _⟩ := h
  exact ⟨cs, h1, h2⟩
theorem open_f2 {base b0 : Nat} {spare : Nat → Bool} {held : Bool} {r : Reach} {v : Value} {d : DataW H} {p : List MemPlace} (hv : Value.okWide Try.prog w r b0 32 v) (h : DataW.Trod enc Try.prog w base spare held 32 v d p) :
    ∃ a b : Nat, v = .agg #[.float .f64 a, .float .f64 b] ∧ a < 18446744073709551616 ∧ b < 18446744073709551616 := by
  obtain ⟨cs, rfl, hsz⟩ := okWide_array Try.underlying32 hv
  rw [show Try.prog.cellsOf 32 = 2 by kernel_rfl] at hsz
  obtain ⟨c0, c1, rfl⟩ := array2 hsz
  obtain ⟨fuel, hf⟩ := h
  obtain ⟨xs, m, _, _, _, hxl, hxs⟩ := DataW.trod_array Try.underlying32 hf
  have e1 : Try.prog.cellsOf 22 = 1 := by kernel_rfl
  have f0 := hxs 0 (by omega)
  have f1 := hxs 1 (by omega)
  rw [e1] at f0 f1
  rw [List.getElem?_eq_getElem (by omega)] at f0 f1
  obtain ⟨a, ha, wa⟩ := trod_float Try.underlying22 f0
  obtain ⟨b, hb, wb⟩ := trod_float Try.underlying22 f1
  simp [Value.cells] at ha hb
  subst ha hb
  exact ⟨a, b, rfl, bits_lt wa, bits_lt wb⟩
theorem open_i2 {base b0 : Nat} {spare : Nat → Bool} {held : Bool} {r : Reach} {v : Value} {d : DataW H} {p : List MemPlace} (hv : Value.okWide Try.prog w r b0 34 v) (h : DataW.Trod enc Try.prog w base spare held 34 v d p) :
    ∃ a b : Int, v = .agg #[.int .i64 a, .int .i64 b] ∧ (-9223372036854775808 ≤ a ∧ a ≤ 9223372036854775807) ∧ (-9223372036854775808 ≤ b ∧ b ≤ 9223372036854775807) := by
  obtain ⟨cs, rfl, hsz⟩ := okWide_array Try.underlying34 hv
  rw [show Try.prog.cellsOf 34 = 2 by kernel_rfl] at hsz
  obtain ⟨c0, c1, rfl⟩ := array2 hsz
  obtain ⟨fuel, hf⟩ := h
  obtain ⟨xs, m, _, _, _, hxl, hxs⟩ := DataW.trod_array Try.underlying34 hf
  have e1 : Try.prog.cellsOf 3 = 1 := by kernel_rfl
  have f0 := hxs 0 (by omega)
  have f1 := hxs 1 (by omega)
  rw [e1] at f0 f1
  rw [List.getElem?_eq_getElem (by omega)] at f0 f1
  obtain ⟨a, ha, _, wa⟩ := DataW.trod_int Try.underlying3 f0
  obtain ⟨b, hb, _, wb⟩ := DataW.trod_int Try.underlying3 f1
  simp [Value.cells] at ha hb
  subst ha hb
  have ga : -9223372036854775808 ≤ a ∧ a ≤ 9223372036854775807 := bounds_i64 wa
  have gb : -9223372036854775808 ≤ b ∧ b ≤ 9223372036854775807 := bounds_i64 wb
  exact ⟨a, b, rfl, ga, gb⟩
end
end Go.Proofs.Ytpbdlmkcomnjbaa
