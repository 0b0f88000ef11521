/- What this text proves: how two heights' states are compared. The conditions are that hashes have 32 bytes. -/
import Derived.Test.YtlhnhdkbfkbafaaDoorRoundAlive
namespace Go.Proofs.YtlhnhdkbfkbafaaDoor
open Go.RowKit
set_option linter.unusedVariables false
set_option linter.unusedSimpArgs false

/-- A struct's fields, compared: by what is blank, type, offset. -/
def eqBy (d : Nat) (xs ys : Array Value) : List (Bool × TypeId × Nat) → Sem Bool
  | [] => pure true
  | (bl, t, off) :: fs =>
    if bl = false then do
      let a ← part t xs off
      let b ← part t ys off
      let r ← Op.equalIn d t a b
      if (!r) = true then pure false else eqBy d xs ys fs
    else eqBy d xs ys fs
theorem eqFields_by (d : Nat) (xs ys : Array Value) : ∀ fs : List Field, Op.eqFields d xs ys fs = eqBy d xs ys (fs.map fun f => (f.name == "_", f.type, f.offset))
  | [] => rfl
  | f :: fs => by
    rw [Op.eqFields, List.map_cons, eqBy, eqFields_by d xs ys fs]
    by_cases h : f.name = "_"
    · rw [if_neg (by simpa using h), if_neg (by simp [h])]
    · rw [if_pos h, if_pos (by simpa using h)]
theorem extract_mid (pre vs post : List Value) (off n : Nat) (hp : pre.length = off) (hn : vs.length = n) : (pre ++ (vs ++ post)).toArray.extract off (off + n) = vs.toArray := by
  subst hp hn
  apply Array.ext'
  simp
section
variable {P : Program} (w : World)
theorem run_part_one {t : TypeId} {xs : Array Value} {off : Nat} {v : Value} (ha : (isAgg t).run P w = .ok false w) (h : xs[off]? = some v) : (part t xs off).run P w = .ok v w := by
  simp [part, Sem.run_bind, ha, h]
theorem run_part_seg {t : TypeId} {xs vs : Array Value} {off n : Nat} (ha : (isAgg t).run P w = .ok true w) (hs : (sizeOf t).run P w = .ok n w) (h : xs.extract off (off + n) = vs) : (part t xs off).run P w = .ok (.agg vs) w := by
  simp [part, Sem.run_bind, ha, hs, h]
theorem eqBy_int {d : Nat} {xs ys : Array Value} {t : TypeId} {off : Nat} {fs : List (Bool × TypeId × Nat)} {a b : Int} (hu : P.underlying t = some (.int .i64)) (hx : xs[off]? = some (.int .i64 a)) (hy : ys[off]? = some (.int .i64 b)) :
    (eqBy (d + 1) xs ys ((false, t, off) :: fs)).run P w = if a = b then (eqBy (d + 1) xs ys fs).run P w else .ok false w := by
  have ha : (isAgg t).run P w = .ok false w := by
    unfold isAgg
    rw [Sem.run_bind, run_underlying hu w]
    rfl
  rw [eqBy, if_pos rfl]
  simp only [Sem.run_bind, run_part_one w ha hx, run_part_one w ha hy, Result.andThen_ok, run_equalIn_int w d t .i64 .i64 a b hu]
  by_cases e : a = b <;> simp [e]
theorem eqBy_bytes {d : Nat} {xs ys : Array Value} {t e : TypeId} {off n : Nat} {fs : List (Bool × TypeId × Nat)} {p q : List UInt8} (ht : P.underlying t = some (.array n e)) (he : P.underlying e = some (.int .u8)) (hsz : ∀ w, (sizeOf e).run P w = .ok 1 w) (hsn : (sizeOf t).run P w = .ok n w)
    (hp : p.length = n) (hq : q.length = n) (hx : xs.extract off (off + n) = (bts p).toArray) (hy : ys.extract off (off + n) = (bts q).toArray) :
    (eqBy (d + 2) xs ys ((false, t, off) :: fs)).run P w = if p = q then (eqBy (d + 2) xs ys fs).run P w else .ok false w := by
  have ha : (isAgg t).run P w = .ok true w := by
    unfold isAgg
    rw [Sem.run_bind, run_underlying ht w]
    rfl
  have h : (Op.equalIn (d + 2) t (.agg (bts p).toArray) (.agg (bts q).toArray)).run P w = .ok (p == q) w := run_equalIn_bytes w d t e n ht he hsz p q hp hq
  rw [eqBy, if_pos rfl]
  simp only [Sem.run_bind, run_part_seg w ha hsn hx, run_part_seg w ha hsn hy, Result.andThen_ok, h]
  by_cases e : p = q <;> simp [e]
end
theorem st_get {s : St} (hs : s.good) : s.cells.toArray[0]? = some (.int .i64 s.round) ∧ s.cells.toArray[1]? = some (.int .i64 s.step) ∧ s.cells.toArray[34]? = some (.int .i64 s.lr) ∧ s.cells.toArray[67]? = some (.int .i64 s.vr) ∧ s.cells.toArray[100]? = some (.int .i64 s.waits) ∧ s.cells.toArray[101]? = some (.int .i64 s.waited) := by
  have hb := Bk.new (default : World) 25 s.cells.toArray
  obtain ⟨c0, c1, c2, c34, c35, c67, c68, c100, c101⟩ := st_out hb hs
  rw [hb.cell] at c0 c1 c34 c67 c100 c101
  exact ⟨c0, c1, c34, c67, c100, c101⟩
theorem st_seg {s : St} (hs : s.good) : s.cells.toArray.extract 2 (2 + 32) = (bts s.locked).toArray ∧ s.cells.toArray.extract 35 (35 + 32) = (bts s.valid).toArray ∧ s.cells.toArray.extract 68 (68 + 32) = (bts s.block).toArray := by
  obtain ⟨h1, h2, h3⟩ := hs
  refine ⟨extract_mid [.int .i64 s.round, .int .i64 s.step] (bts s.locked) _ 2 32 rfl (by rw [bts_len, h1]), ?_, ?_⟩
  · have := extract_mid (.int .i64 s.round :: .int .i64 s.step :: (bts s.locked ++ [.int .i64 s.lr])) (bts s.valid) (.int .i64 s.vr :: (bts s.block ++ [.int .i64 s.waits, .int .i64 s.waited])) 35 32 (by simp [bts_len, h1]) (by rw [bts_len, h2])
    rw [← this]
    simp [St.cells]
  · have := extract_mid (.int .i64 s.round :: .int .i64 s.step :: (bts s.locked ++ .int .i64 s.lr :: (bts s.valid ++ [.int .i64 s.vr]))) (bts s.block) [.int .i64 s.waits, .int .i64 s.waited] 68 32 (by simp [bts_len, h1, h2]) (by rw [bts_len, h3])
    rw [← this]
    simp [St.cells]

def stFields : List (Bool × TypeId × Nat) := [(false, 3, 0), (false, 3, 1), (false, 23, 2), (false, 3, 34), (false, 23, 35), (false, 3, 67), (false, 23, 68), (false, 3, 100), (false, 3, 101)]
theorem fields_state : ((Tryd.prog.fieldsOf 25).toList.map fun f => (f.name == "_", f.type, f.offset)) = stFields := by kernel_rfl
def St.same (s t : St) : Bool := decide (s.round = t.round) && (decide (s.step = t.step) && (decide (s.locked = t.locked) && (decide (s.lr = t.lr) && (decide (s.valid = t.valid) && (decide (s.vr = t.vr) && (decide (s.block = t.block) && (decide (s.waits = t.waits) && (decide (s.waited = t.waited) && true))))))))
theorem St.same_iff {s t : St} : s.same t = true ↔ s = t := by
  obtain ⟨s1, s2, s3, s4, s5, s6, s7, s8, s9⟩ := s
  obtain ⟨t1, t2, t3, t4, t5, t6, t7, t8, t9⟩ := t
  simp only [St.same, St.mk.injEq, Bool.and_eq_true, decide_eq_true_eq, and_true]
theorem ite_ok {p : Prop} [Decidable p] {b : Bool} {w : World} : (if p then (Result.ok b w : Result Bool) else .ok false w) = .ok (decide p && b) w := by
  by_cases h : p <;> simp [h]
theorem eqBy_state (w : World) (s t : St) (hs : s.good) (ht : t.good) : (eqBy 9999 s.cells.toArray t.cells.toArray stFields).run Tryd.prog w = .ok (s.same t) w := by
  obtain ⟨a0, a1, a34, a67, a100, a101⟩ := st_get hs
  obtain ⟨b0, b1, b34, b67, b100, b101⟩ := st_get ht
  obtain ⟨x2, x35, x68⟩ := st_seg hs
  obtain ⟨y2, y35, y68⟩ := st_seg ht
  have hI := Tryd.underlying3
  have hH := fun off fs (p q : List UInt8) hp hq hx hy => eqBy_bytes (P := Tryd.prog) w (d := 9997) (xs := s.cells.toArray) (ys := t.cells.toArray) (off := off) (fs := fs) (p := p) (q := q) hu_hash Tryd.underlying5 hs_u8 (Tryd.sizeOf23 w) hp hq hx hy
  have hN := fun off fs (a b : Int) hx hy => eqBy_int (P := Tryd.prog) w (d := 9998) (xs := s.cells.toArray) (ys := t.cells.toArray) (off := off) (fs := fs) (a := a) (b := b) hI hx hy
  have key : (eqBy 9999 s.cells.toArray t.cells.toArray stFields).run Tryd.prog w = if s.round = t.round then if s.step = t.step then if s.locked = t.locked then if s.lr = t.lr then if s.valid = t.valid then if s.vr = t.vr then if s.block = t.block then if s.waits = t.waits then if s.waited = t.waited then .ok true w else .ok false w else .ok false w else .ok false w else .ok false w else .ok false w else .ok false w else .ok false w else .ok false w else .ok false w := by
    unfold stFields
    rw [hN 0 _ _ _ a0 b0, hN 1 _ _ _ a1 b1, hH 2 _ _ _ hs.locked ht.locked x2 y2, hN 34 _ _ _ a34 b34, hH 35 _ _ _ hs.valid ht.valid x35 y35, hN 67 _ _ _ a67 b67, hH 68 _ _ _ hs.block ht.block x68 y68, hN 100 _ _ _ a100 b100, hN 101 _ _ _ a101 b101]
    rfl
  rw [key]
  simp only [ite_ok]
  simp only [St.same]
theorem state_eql (w : World) (s t : St) (hs : s.good) (ht : t.good) : (binOp .eql 25 (.agg s.cells.toArray) (.agg t.cells.toArray)).run Tryd.prog w = .ok (.bool (s.same t)) w := by
  rw [run_eql_struct, run_equalIn_struct w 9999 25 _ _ (by kernel_rfl) (by kernel_rfl), eqFields_by, fields_state, eqBy_state w s t hs ht]
  rfl
theorem state_neq (w : World) (s t : St) (hs : s.good) (ht : t.good) : (binOp .neq 25 (.agg s.cells.toArray) (.agg t.cells.toArray)).run Tryd.prog w = .ok (.bool (!(s.same t))) w := by
  rw [run_neq_struct, run_equalIn_struct w 9999 25 _ _ (by kernel_rfl) (by kernel_rfl), eqFields_by, fields_state, eqBy_state w s t hs ht]
  rfl
end Go.Proofs.YtlhnhdkbfkbafaaDoor
