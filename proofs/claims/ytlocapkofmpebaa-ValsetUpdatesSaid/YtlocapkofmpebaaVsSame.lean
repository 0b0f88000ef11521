/- What this text proves: the contract of the document's SameSet: whether two lists of validators are one. No condition but that the lists are no longer than a slice can be. -/
import Derived.Test.YtlocapkofmpebaaVsAlive
namespace Go.Proofs.Ytlocapkofmpebaa
open Go.RowKit
set_option linter.unusedVariables false
set_option linter.unusedSimpArgs false

/-- A struct's fields, compared: by what is blank, type, offset. -/
def eqBy (d : Nat) (xs ys : Array Value) : List (Bool × TypeId × Nat) → Sem Bool
  | [] => pure true
  | (bl, t, off) :: fs =>
    if bl = false then do
      let a ← part t xs off
      let b ← part t ys off
      let r ← Op.equalIn d t a b
      if (!r) = true then pure false else eqBy d xs ys fs
    else eqBy d xs ys fs
theorem eqFields_by (d : Nat) (xs ys : Array Value) : ∀ fs : List Field, Op.eqFields d xs ys fs = eqBy d xs ys (fs.map fun f => (f.name == "_", f.type, f.offset))
  | [] => rfl
  | f :: fs => by
    rw [Op.eqFields, List.map_cons, eqBy, eqFields_by d xs ys fs]
    by_cases h : f.name = "_"
    · rw [if_neg (by simpa using h), if_neg (by simp [h])]
    · rw [if_pos h, if_pos (by simpa using h)]
section
variable {P : Program} (w : World)
theorem run_part_one {t : TypeId} {xs : Array Value} {off : Nat} {v : Value} (ha : (isAgg t).run P w = .ok false w) (h : xs[off]? = some v) : (part t xs off).run P w = .ok v w := by
  simp [part, Sem.run_bind, ha, h]
theorem eqBy_int {k : IntKind} {d : Nat} {xs ys : Array Value} {t : TypeId} {off : Nat} {fs : List (Bool × TypeId × Nat)} {a b : Int} (hu : P.underlying t = some (.int k)) (hx : xs[off]? = some (.int k a)) (hy : ys[off]? = some (.int k b)) :
    (eqBy (d + 1) xs ys ((false, t, off) :: fs)).run P w = if a = b then (eqBy (d + 1) xs ys fs).run P w else .ok false w := by
  have ha : (isAgg t).run P w = .ok false w := by
    unfold isAgg
    rw [Sem.run_bind, run_underlying hu w]
    rfl
  rw [eqBy, if_pos rfl]
  simp only [Sem.run_bind, run_part_one w ha hx, run_part_one w ha hy, Result.andThen_ok, run_equalIn_int w d t k k a b hu]
  by_cases e : a = b <;> simp [e]
end
def valFields : List (Bool × TypeId × Nat) := [(false, 24, 0), (false, 3, 1)]
theorem fields_val : ((Try.prog.fieldsOf 26).toList.map fun f => (f.name == "_", f.type, f.offset)) = valFields := by kernel_rfl
theorem val_neq (a b c d : Int) (w : World) : (binOp .neq 26 (.agg #[.int .u64 a, .int .i64 b]) (.agg #[.int .u64 c, .int .i64 d])).run Try.prog w = .ok (.bool (!(decide ((a, b) = (c, d))))) w := by
  have key : (eqBy 9999 #[.int .u64 a, .int .i64 b] #[.int .u64 c, .int .i64 d] valFields).run Try.prog w = .ok (decide ((a, b) = (c, d))) w := by
    unfold valFields
    rw [eqBy_int (P := Try.prog) (d := 9998) w Try.underlying24 rfl rfl, eqBy_int (P := Try.prog) (d := 9998) w Try.underlying3 rfl rfl]
    by_cases h1 : a = c
    · by_cases h2 : b = d
      · rw [if_pos h1, if_pos h2]; simp [h1, h2]; rfl
      · rw [if_pos h1, if_neg h2]; simp [h1, h2]
    · rw [if_neg h1]; simp [h1]
  rw [run_neq_struct, run_equalIn_struct w 9999 26 _ _ (by kernel_rfl) (by kernel_rfl), eqFields_by, fields_val, key]
  rfl

set_option maxHeartbeats 2000000 in
theorem sameset_any (A A' : Option Addr) (l m : VL) (c c' : Nat) (w : World) (hl : l.length ≤ 1000000) (hm : m.length ≤ 1000000) (hA : Sl w w.heap.size 2 A l.length (vCells l)) (hA' : Sl w w.heap.size 2 A' m.length (vCells m)) :
    Calls Try.prog 11 #[.slice A l.length c, .slice A' m.length c'] w fun e w' => e = .returned (.bool (decide (l = m))) ∧ Below w.heap.size w w' := by
  have HA := Lib.hid hA
  have HA' := Lib.hid hA'
  clear hA hA'
  by_cases hlen : l.length = m.length
  · have e1 : ((l.length : Int) == (m.length : Int)) = true := by simp [hlen]
    have HLN := Lib.hid hlen
    go_enter Try.func11, Try.ntmps11
    go_wp2_with fail
    go_loopw [5] (fun i wr => ∃ (k : Nat), k ≤ l.length ∧ i = .int .i64 k ∧ l.take k = m.take k ∧ Below w.heap.size w wr) (fun i _ => l.length - (intOf i).toNat)
    case atStart => exact ⟨0, by omega, rfl, by simp, Below.refl _ _⟩
    case round =>
      obtain ⟨k, hk, rfl, htk, hbel⟩ := hrel
      have HT := Lib.hid htk
      have LR := Lib.hid hbel
      clear htk hbel hlen e1
      by_cases hlt : k < l.length
      · obtain ⟨b, off, ka, pa, rfl, hb, hca, hpa, hla⟩ := (HA.out.below LR.out).val hlt
        obtain ⟨b', off', kb, pb, rfl, hb', hcb, hpb, hlb⟩ := (HA'.out.below LR.out).val (k := k) (by rw [← HLN.out]; exact hlt)
        have HLA := Lib.hid hla
        have HLB := Lib.hid hlb
        clear hla hlb
        have e5 : (k : Int) < (l.length : Int) := by omega
        have e6 : (k : Int) < (m.length : Int) := by have := HLN.out; omega
        by_cases he : (ka, pa) = (kb, pb)
        · have E0 : ∀ W, (binOp .neq 26 (.agg #[.int .u64 ka, .int .i64 pa]) (.agg #[.int .u64 kb, .int .i64 pb])).run Try.prog W = .ok (.bool false) W := fun W => by rw [val_neq]; simp [he]
          have HE := Lib.hid he
          clear he
          go_wp2_with fail
          go_quiet (fail)
          clear e5 e6
          go_wp2_with fail
          go_roundw
          case rel => exact ⟨k+1, by omega, by go_num, by rw [take_at HLA.out, take_at HLB.out, HT.out, HE.out], by have hb_ := LR.out; exact (by (first | assumption | (repeat (first | exact Below.refl _ _ | assumption | apply Below.drew | apply below_drewN | (refine Below.setCell ?_ (by (try simp) <;> omega) _) | (refine Below.alloc ?_ (by (try simp) <;> omega) _)))))⟩
          case measure => simp [intOf]; omega
        · have E0 : ∀ W, (binOp .neq 26 (.agg #[.int .u64 ka, .int .i64 pa]) (.agg #[.int .u64 kb, .int .i64 pb])).run Try.prog W = .ok (.bool true) W := fun W => by rw [val_neq, decide_eq_false he]; rfl
          have HE : Hid (decide (l = m) = false) := Lib.hid (by
            rw [decide_eq_false_iff_not]
            rintro rfl
            have := HLA.out.symm.trans HLB.out
            exact he (Option.some.inj this))
          clear he
          go_wp2_with fail
          go_quiet (fail)
          clear e5 e6
          go_wp2_with fail
          go_ret
          exact ⟨ret_bool (by rw [HE.out]), by have hb_ := LR.out; exact (by (first | assumption | (repeat (first | exact Below.refl _ _ | assumption | apply Below.drew | apply below_drewN | (refine Below.setCell ?_ (by (try simp) <;> omega) _) | (refine Below.alloc ?_ (by (try simp) <;> omega) _)))))⟩
      · obtain rfl : k = l.length := by omega
        have HE : Hid (decide (l = m) = true) := Lib.hid (by
          have h1 := HT.out
          rw [List.take_length, HLN.out, List.take_length] at h1
          simpa using h1)
        go_wp2_with fail
        go_ret
        exact ⟨ret_bool (by rw [HE.out]), LR.out⟩
  · have e1 : ((l.length : Int) == (m.length : Int)) = false := by simp; omega
    have HE : Hid (decide (l = m) = false) := Lib.hid (by
      rw [decide_eq_false_iff_not]
      rintro rfl
      exact hlen rfl)
    clear hlen
    go_enter Try.func11, Try.ntmps11
    go_wp2_with fail
    go_ret
    exact ⟨ret_bool (by rw [HE.out]), Below.refl _ _⟩
end Go.Proofs.Ytlocapkofmpebaa
