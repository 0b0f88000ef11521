/- What this text proves: one law for the statement 's, x = f(s, l[i])' in a walk: the model draws the order of its operations; the two loads may come in either order, all else lies fixed. The conditions are the law's own premises. -/
import Derived.Test.YtlhnhdkbfkbafaaDoorAgg
import Derived.Deep.RegionHeld3
namespace Go.Proofs.YtlhnhdkbfkbafaaDoor
open Go.RowKit
set_option linter.unusedVariables false
set_option linter.unusedSimpArgs false

/-- The closed facts on the order. -/
def twoB (ops : Array Oper) : Bool :=
  let L0 := Array.replicate ops.size false
  let L1 := L0.setIfInBounds 1 true
  let L2 := L1.setIfInBounds 2 true
  let L3 := L2.setIfInBounds 3 true
  let L4 := L3.setIfInBounds 0 true
  let L5 := L4.setIfInBounds 4 true
  let L6 := L5.setIfInBounds 5 true
  let L7 := L6.setIfInBounds 6 true
  let L8 := L7.setIfInBounds 7 true
  let L9 := L8.setIfInBounds 8 true
  Region.noSelect ops && ((Region.ready .any ops L0).contains 1 && (Region.free .any ops L0 1 && ((Region.ready .any ops L1).contains 2 && (Region.free .any ops L1 2 && ((Region.ready .any ops L2).contains 3 && (Region.free .any ops L2 3 &&
    (decide (Region.ready .any ops L3 = [0, 4]) && (decide (Region.ready .any ops L4 = [4]) && (decide (Region.ready .any ops (L3.setIfInBounds 4 true) = [0]) && (decide (Region.ready .any ops L5 = [5]) &&
    ((Region.ready .any ops L6).contains 6 && (Region.free .any ops L6 6 && ((Region.ready .any ops L7).contains 7 && (Region.free .any ops L7 7 && ((Region.ready .any ops L8).contains 8 && (Region.free .any ops L8 8 && (decide (Region.ready .any ops L9 = [9]) && (decide (Region.ready .any ops (L9.setIfInBounds 9 true) = [10]) && decide (Region.ready .any ops ((L9.setIfInBounds 9 true).setIfInBounds 10 true) = [])))))))))))))))))))

section
variable {P : Program} {id : Nat} {Q : Exit → Act → World → Prop} {a : Act} {w : World} {o0 o1 o2 o3 o4 o5 o6 o7 o8 o9 o10 : Oper}
theorem put_none (a : Act) (v : Value) : a.put none v = a := rfl
theorem run_store_seg {o : Oper} (ty : TypeId) (x y : Operand) (ho : o.op = .store ty x y) (g off : Nat) (hx : a.eval x = .pointer (some ⟨g, off, none⟩)) (vs : List Value) (hy : a.eval y = .agg vs.toArray) (n : Nat) (hn : vs.length = n)
    (ht : w.there g off n) (hi : (P.info? ty).map (·.size) = some n) (h1 : vs.toArray.all (·.oneCell') = true) : (execOp a.eval o).run P w = .ok .skip (w.setCells g off vs) := by
  subst hn
  have h := run_storeVar_mid (P := P) w g off ty vs.toArray (by simpa using ht) (by simpa using hi) h1
  unfold execOp
  simp only [ho, hx, hy, Instr.storeAt, Instr.sureAddr, Sem.run_bind, Sem.run_pure, Result.andThen_ok, h]
theorem run_index_at {o : Oper} (t : TypeId) (x ix : Operand) (ho : o.op = .indexAddr t x ix) {vx vi r : Value} (hx : a.eval x = vx) (hi : a.eval ix = vi) {W : World} (hr : (Instr.indexAt t vx vi).run P W = .ok r W) : (execOp a.eval o).run P W = .ok (.value r) W := by
  unfold execOp
  simp only [ho, hx, hi, Sem.run_bind, hr, Result.andThen_ok, Sem.run_pure]
theorem run_call_two {o : Oper} (f : FuncId) (fn : Func) (hf : P.funcs[f]? = some fn) (hn : (fn.name == "runtime.NumGoroutine") = false) (hb : fn.body.isNone = false) (x y : Operand) (tys : Array TypeId) (ho : o.op = .call { callee := .value (.func f), args := #[x, y], argTypes := tys }) {vx vy : Value} (hx : a.eval x = vx) (hy : a.eval y = vy) {W : World} :
    (execOp a.eval o).run P W = .ok (.enter f #[vx, vy]) W := by
  unfold execOp
  simp only [ho]
  have hv : a.eval (.func f) = .func (.func f) #[] #[] := rfl
  have hn' : ¬ fn.name = "runtime.NumGoroutine" := by simpa using hn
  have hb' : ¬ fn.body = none := fun e => by rw [e] at hb; cases hb
  simp [resolve, invoke, Deferred.ofValue, hx, hy, hv, callFunc, hf, hn', hb']
theorem run_move_at {o : Oper} (x : Operand) (ho : o.op = .move x ∨ o.op = .assign x) {v : Value} (hx : a.eval x = v) {W : World} : (execOp a.eval o).run P W = .ok (.value v) W := by
  unfold execOp
  rcases ho with ho | ho <;> (simp only [ho, hx]; rfl)
theorem run_extract_at {o : Oper} (t : Operand) (ix : Nat) (ho : o.op = .extract t ix) {vs : Array Value} {v : Value} (ht : a.eval t = .tuple vs) (hv : vs[ix]? = some v) {W : World} : (execOp a.eval o).run P W = .ok (.value v) W := by
  unfold execOp
  simp only [ho, ht, Instr.extract, hv]
  rfl
theorem take_of {ops : Array Oper} {o : Oper} {i fuel : Nat} {v : Value} {listed : Array Bool} {a : Act} {w : World} (hi : ops[i]? = some o) (hs : Region.noSelect ops = true) (hf : Region.free .any ops listed i = true) (hr : (Region.ready .any ops listed).contains i = true)
    (hQ : ∀ c a d v w, Q (.panic c) (a.put d v) w → Q (.panic c) a w) (hg : o.guard = none) (hy : ∀ W, (execOp a.eval o).run P W = .ok (.value v) W) (h : wpAny P .any ops Q fuel (listed.setIfInBounds i true) (a.put o.dst v) w) : wpAny P .any ops Q (fuel + 1) listed a w :=
  wpAny_take hi hs hf hr (fun c a w => hQ c a _ _ w) (.inl ⟨by simp [Region.wanted, hg], hy⟩) h
theorem one_of {ops : Array Oper} {o : Oper} {i fuel : Nat} {v : Value} {listed : Array Bool} {a : Act} {w : World} (hi : ops[i]? = some o) (hr : Region.ready .any ops listed = [i]) (hg : o.guard = none) (hy : (execOp a.eval o).run P w = .ok (.value v) w)
    (h : wpAny P .any ops Q fuel (listed.setIfInBounds i true) (a.put o.dst v) w) : wpAny P .any ops Q (fuel + 1) listed a w :=
  wpAny_all hr (by simp) (fun j hj => by
    have : j = i := by simpa using hj
    subst this
    unfold wpOp
    simp only [hi]
    rw [if_pos (by simp [Region.wanted, hg])]
    refine .inl ?_
    unfold Oper.wp
    rw [hy]
    exact h)

theorem wp_region_two (hm : P.follows .mixedOrders = true) (hB : twoB [o0, o1, o2, o3, o4, o5, o6, o7, o8, o9, o10].toArray = true)
    (hap : o0.apart [o0, o1, o2, o3, o4, o5, o6, o7, o8, o9, o10].toArray o4 = true) (hap' : o4.apart [o0, o1, o2, o3, o4, o5, o6, o7, o8, o9, o10].toArray o0 = true)
    (hg : o0.guard = none ∧ o1.guard = none ∧ o2.guard = none ∧ o3.guard = none ∧ o4.guard = none ∧ o5.guard = none ∧ o6.guard = none ∧ o7.guard = none ∧ o8.guard = none ∧ o9.guard = none ∧ o10.guard = none) (hd9 : o9.dst = none)
    (v0 v1 v2 v3 v4 : Value) (y1 : ∀ W, (execOp a.eval o1).run P W = .ok (.value v1) W) (y2 : ∀ W, (execOp (a.put o1.dst v1).eval o2).run P W = .ok (.value v2) W) (y3 : ∀ W, (execOp ((a.put o1.dst v1).put o2.dst v2).eval o3).run P W = .ok (.value v3) W)
    (y0 : (execOp (((a.put o1.dst v1).put o2.dst v2).put o3.dst v3).eval o0).run P w.drew = .ok (.value v0) w.drew) (y4 : (execOp (((a.put o1.dst v1).put o2.dst v2).put o3.dst v3).eval o4).run P w.drew = .ok (.value v4) w.drew)
    (f : FuncId) (args : Array Value) (hc : (execOp (((((a.put o1.dst v1).put o2.dst v2).put o3.dst v3).put o0.dst v0).put o4.dst v4).eval o5).run P w.drew = .ok (.enter f args) w.drew)
    (h : Calls P f args w.drew (fun e w6 => ∃ u x y, e = .returned u ∧
      (∀ W, (execOp ((((((a.put o1.dst v1).put o2.dst v2).put o3.dst v3).put o0.dst v0).put o4.dst v4).put o5.dst u).eval o6).run P W = .ok (.value u) W) ∧
      (∀ W, (execOp (((((((a.put o1.dst v1).put o2.dst v2).put o3.dst v3).put o0.dst v0).put o4.dst v4).put o5.dst u).put o6.dst u).eval o7).run P W = .ok (.value x) W) ∧
      (∀ W, (execOp ((((((((a.put o1.dst v1).put o2.dst v2).put o3.dst v3).put o0.dst v0).put o4.dst v4).put o5.dst u).put o6.dst u).put o7.dst x).eval o8).run P W = .ok (.value y) W) ∧
      ∃ w7, (execOp (((((((((a.put o1.dst v1).put o2.dst v2).put o3.dst v3).put o0.dst v0).put o4.dst v4).put o5.dst u).put o6.dst u).put o7.dst x).put o8.dst y).eval o9).run P w6 = .ok .skip w7 ∧
      (execOp (((((((((a.put o1.dst v1).put o2.dst v2).put o3.dst v3).put o0.dst v0).put o4.dst v4).put o5.dst u).put o6.dst u).put o7.dst x).put o8.dst y).eval o10).run P w7 = .ok (.value y) w7 ∧
      Q .normal ((((((((((a.put o1.dst v1).put o2.dst v2).put o3.dst v3).put o0.dst v0).put o4.dst v4).put o5.dst u).put o6.dst u).put o7.dst x).put o8.dst y).put o10.dst y) w7)) :
    (Code.region id [o0, o1, o2, o3, o4, o5, o6, o7, o8, o9, o10].toArray true).wp P Q a w := by
  simp only [twoB, Bool.and_eq_true, decide_eq_true_eq] at hB
  obtain ⟨hs, r1, f1, r2, f2, r3, f3, r04, r4, r0, r5, r6, f6, r7, f7, r8, f8, r9, r10, r11⟩ := hB
  obtain ⟨g0, g1, g2, g3, g4, g5, g6, g7, g8, g9, g10⟩ := hg
  have hQ : ∀ c a d v w, NoPanic Q (.panic c) (Act.put a d v) w → NoPanic Q (.panic c) a w := fun _ _ _ _ _ h => h
  refine wp_region_noPanic (wp_region_any hm ?_)
  change wpAny P .any _ (NoPanic Q) 11 _ a w.drew
  refine take_of (i := 1) (o := o1) rfl hs f1 r1 hQ g1 y1 ?_
  refine take_of (i := 2) (o := o2) rfl hs f2 r2 hQ g2 y2 ?_
  refine take_of (i := 3) (o := o3) rfl hs f3 r3 hQ g3 y3 ?_
  have key : wpAny P .any [o0, o1, o2, o3, o4, o5, o6, o7, o8, o9, o10].toArray (NoPanic Q) 6 (((((Array.replicate [o0, o1, o2, o3, o4, o5, o6, o7, o8, o9, o10].toArray.size false).setIfInBounds 1 true).setIfInBounds 2 true).setIfInBounds 3 true).setIfInBounds 0 true |>.setIfInBounds 4 true) (((((a.put o1.dst v1).put o2.dst v2).put o3.dst v3).put o0.dst v0).put o4.dst v4) w.drew := by
    refine wpAny_all r5 (by simp) (fun j hj => ?_)
    have : j = 5 := by simpa using hj
    subst this
    unfold wpOp
    simp only [List.getElem?_toArray, List.getElem?_cons_succ, List.getElem?_cons_zero]
    rw [if_pos (by simp [Region.wanted, g5])]
    refine .inl ?_
    unfold Oper.wp
    rw [hc, Oper.upon_enter]
    refine Calls.mono h fun e w6 he => ?_
    obtain ⟨u, x, y, rfl, y6, y7, y8, w7, y9, y10, hl⟩ := he
    refine take_of (i := 6) (o := o6) rfl hs f6 r6 hQ g6 y6 ?_
    refine take_of (i := 7) (o := o7) rfl hs f7 r7 hQ g7 y7 ?_
    refine take_of (i := 8) (o := o8) rfl hs f8 r8 hQ g8 y8 ?_
    refine wpAny_all r9 (by simp) (fun j hj => ?_)
    have : j = 9 := by simpa using hj
    subst this
    unfold wpOp
    simp only [List.getElem?_toArray, List.getElem?_cons_succ, List.getElem?_cons_zero]
    rw [if_pos (by simp [Region.wanted, g9])]
    refine .inl ?_
    unfold Oper.wp
    rw [y9, Oper.upon_skip, hd9, put_none]
    refine one_of (i := 10) (o := o10) rfl r10 g10 y10 ?_
    exact wpAny_done (Q := NoPanic Q) r11 hl _
  obtain ⟨p1, p2, p3⟩ := Oper.apart_spec hap
  obtain ⟨q1, q2, q3⟩ := Oper.apart_spec hap'
  have n0 : ∀ cs b, o0.op ≠ .select cs b := fun cs b => Region.noSelect_spec hs 0 o0 cs b rfl
  have n4 : ∀ cs b, o4.op ≠ .select cs b := fun cs b => Region.noSelect_spec hs 4 o4 cs b rfl
  refine wpAny_all r04 (by simp) (fun j hj => ?_)
  have : j = 0 ∨ j = 4 := by simpa using hj
  rcases this with rfl | rfl
  · unfold wpOp
    simp only [List.getElem?_toArray, List.getElem?_cons_zero]
    rw [if_pos (by simp [Region.wanted, g0])]
    refine .inl ?_
    unfold Oper.wp
    rw [y0, Oper.upon_value]
    refine one_of (i := 4) (o := o4) rfl r4 g4 ?_ key
    rw [execOp_put o4 n4 _ o0.dst v0 p1]
    exact y4
  · unfold wpOp
    simp only [List.getElem?_toArray, List.getElem?_cons_succ, List.getElem?_cons_zero]
    rw [if_pos (by simp [Region.wanted, g4])]
    refine .inl ?_
    unfold Oper.wp
    rw [y4, Oper.upon_value]
    refine one_of (i := 0) (o := o0) (v := v0) rfl r0 g0 ?_ ?_
    · rw [execOp_put o0 n0 _ o4.dst v4 q1]
      exact y0
    · rw [Array.setIfInBounds_comm _ _ (by decide)]
      rw [← Act.put_comm _ v0 v4 p2]
      exact key
theorem size_put (a : Act) (d : Option Tmp) (v : Value) : (a.put d v).tmps.size = a.tmps.size := by
  cases d <;> simp [Act.put]
theorem ev_hit (a : Act) (d : Tmp) (v : Value) (h : d < a.tmps.size) : (a.put (some d) v).eval (.tmp d) = v := by
  simp [Act.put, Act.eval, Array.getD, h]
theorem ev_far (a : Act) (d j : Tmp) (v : Value) (h : j ≠ d) : (a.put (some d) v).eval (.tmp j) = a.eval (.tmp j) := Act.eval_put fun d' hd => by
  have : d = d' := by simpa using hd
  subst this
  simpa using h
/-- 's, x = f(s, l[i])', s a variable of many cells, l a slice of values of many cells. -/
theorem wp_region_step {TS TI TL : TypeId} {s sl ix d0 d1 d2 d3 d4 d5 d6 d7 d8 out : Tmp} {f : FuncId} {tys : Array TypeId} {k0 k1 k2 k3 k4 k5 k6 k7 k8 k9 k10 : TypeId} {p0 p1 p2 p3 p4 p5 p6 p7 p8 p9 p10 : String} {f0 f1 f2 f3 f4 f5 f6 f7 f8 f9 f10 : Array Edge}
    (hm : P.follows .mixedOrders = true) (hB : twoB ([⟨some d0, .load TS (.tmp s), k0, p0, f0, none⟩, ⟨some d1, .move (.tmp sl), k1, p1, f1, none⟩, ⟨some d2, .move (.tmp ix), k2, p2, f2, none⟩, ⟨some d3, .indexAddr TL (.tmp d1) (.tmp d2), k3, p3, f3, none⟩, ⟨some d4, .load TI (.tmp d3), k4, p4, f4, none⟩, ⟨some d5, .call { callee := .value (.func f), args := #[.tmp d0, .tmp d4], argTypes := tys }, k5, p5, f5, none⟩, ⟨some d6, .move (.tmp d5), k6, p6, f6, none⟩, ⟨some d7, .extract (.tmp d6) 0, k7, p7, f7, none⟩, ⟨some d8, .extract (.tmp d6) 1, k8, p8, f8, none⟩, ⟨none, .store TS (.tmp s) (.tmp d7), k9, p9, f9, none⟩, ⟨some out, .assign (.tmp d8), k10, p10, f10, none⟩] : List Oper).toArray = true)
    (hap : Oper.apart ([⟨some d0, .load TS (.tmp s), k0, p0, f0, none⟩, ⟨some d1, .move (.tmp sl), k1, p1, f1, none⟩, ⟨some d2, .move (.tmp ix), k2, p2, f2, none⟩, ⟨some d3, .indexAddr TL (.tmp d1) (.tmp d2), k3, p3, f3, none⟩, ⟨some d4, .load TI (.tmp d3), k4, p4, f4, none⟩, ⟨some d5, .call { callee := .value (.func f), args := #[.tmp d0, .tmp d4], argTypes := tys }, k5, p5, f5, none⟩, ⟨some d6, .move (.tmp d5), k6, p6, f6, none⟩, ⟨some d7, .extract (.tmp d6) 0, k7, p7, f7, none⟩, ⟨some d8, .extract (.tmp d6) 1, k8, p8, f8, none⟩, ⟨none, .store TS (.tmp s) (.tmp d7), k9, p9, f9, none⟩, ⟨some out, .assign (.tmp d8), k10, p10, f10, none⟩] : List Oper).toArray ⟨some d0, .load TS (.tmp s), k0, p0, f0, none⟩ ⟨some d4, .load TI (.tmp d3), k4, p4, f4, none⟩ = true) (hap' : Oper.apart ([⟨some d0, .load TS (.tmp s), k0, p0, f0, none⟩, ⟨some d1, .move (.tmp sl), k1, p1, f1, none⟩, ⟨some d2, .move (.tmp ix), k2, p2, f2, none⟩, ⟨some d3, .indexAddr TL (.tmp d1) (.tmp d2), k3, p3, f3, none⟩, ⟨some d4, .load TI (.tmp d3), k4, p4, f4, none⟩, ⟨some d5, .call { callee := .value (.func f), args := #[.tmp d0, .tmp d4], argTypes := tys }, k5, p5, f5, none⟩, ⟨some d6, .move (.tmp d5), k6, p6, f6, none⟩, ⟨some d7, .extract (.tmp d6) 0, k7, p7, f7, none⟩, ⟨some d8, .extract (.tmp d6) 1, k8, p8, f8, none⟩, ⟨none, .store TS (.tmp s) (.tmp d7), k9, p9, f9, none⟩, ⟨some out, .assign (.tmp d8), k10, p10, f10, none⟩] : List Oper).toArray ⟨some d4, .load TI (.tmp d3), k4, p4, f4, none⟩ ⟨some d0, .load TS (.tmp s), k0, p0, f0, none⟩ = true)
    (hnd : [s, sl, ix, d0, d1, d2, d3, d4, d5, d6, d7, d8].Nodup) (hsz : ∀ d ∈ [d0, d1, d2, d3, d4, d5, d6, d7, d8], d < a.tmps.size)
    (gs : Nat) (hs : a.eval (.tmp s) = .pointer (some ⟨gs, 0, none⟩)) (A : Option Addr) (n c k : Nat) (hsl : a.eval (.tmp sl) = .slice A n c) (hix : a.eval (.tmp ix) = .int .i64 k) (b off : Nat)
    (hidx : ∀ W, (Instr.indexAt TL (.slice A n c) (.int .i64 k)).run P W = .ok (.pointer (some ⟨b, off, none⟩)) W)
    (ds di : TypeDesc) (hds : P.underlying TS = some ds) (hdi : P.underlying TI = some di) (rs : ds.isRow = true) (ri : di.isRow = true) (ns ni : Nat) (his : (P.info? TS).map (·.size) = some ns) (hii : (P.info? TI).map (·.size) = some ni)
    (vs vi : List Value) (hvs : vs.length = ns) (hvi : vi.length = ni) (hcs : w.drew.rangeAt gs 0 vs) (hci : w.drew.rangeAt b off vi)
    (fn : Func) (hf : P.funcs[f]? = some fn) (hn : (fn.name == "runtime.NumGoroutine") = false) (hb : fn.body.isNone = false)
    (h : Calls P f #[.agg vs.toArray, .agg vi.toArray] w.drew (fun e w6 => ∃ (vt : List Value) (v : Value), e = .returned (.tuple #[.agg vt.toArray, v]) ∧ vt.length = ns ∧ vt.toArray.all (·.oneCell') = true ∧ w6.there gs 0 ns ∧
      Q .normal ((((((((((a.put (some d1) (.slice A n c)).put (some d2) (.int .i64 k)).put (some d3) (.pointer (some ⟨b, off, none⟩))).put (some d0) (.agg vs.toArray)).put (some d4) (.agg vi.toArray)).put (some d5) (.tuple #[.agg vt.toArray, v])).put (some d6) (.tuple #[.agg vt.toArray, v])).put (some d7) (.agg vt.toArray)).put (some d8) v).put (some out) v) (w6.setCells gs 0 vt))) :
    (Code.region id ([⟨some d0, .load TS (.tmp s), k0, p0, f0, none⟩, ⟨some d1, .move (.tmp sl), k1, p1, f1, none⟩, ⟨some d2, .move (.tmp ix), k2, p2, f2, none⟩, ⟨some d3, .indexAddr TL (.tmp d1) (.tmp d2), k3, p3, f3, none⟩, ⟨some d4, .load TI (.tmp d3), k4, p4, f4, none⟩, ⟨some d5, .call { callee := .value (.func f), args := #[.tmp d0, .tmp d4], argTypes := tys }, k5, p5, f5, none⟩, ⟨some d6, .move (.tmp d5), k6, p6, f6, none⟩, ⟨some d7, .extract (.tmp d6) 0, k7, p7, f7, none⟩, ⟨some d8, .extract (.tmp d6) 1, k8, p8, f8, none⟩, ⟨none, .store TS (.tmp s) (.tmp d7), k9, p9, f9, none⟩, ⟨some out, .assign (.tmp d8), k10, p10, f10, none⟩] : List Oper).toArray true).wp P Q a w := by
  simp only [List.nodup_cons, List.mem_cons, List.not_mem_nil, or_false, not_or] at hnd
  obtain ⟨⟨a1, a2, a3, a4, a5, a6, a7, a8, a9, a10, a11⟩, ⟨b2, b3, b4, b5, b6, b7, b8, b9, b10, b11⟩, ⟨c3, c4, c5, c6, c7, c8, c9, c10, c11⟩, ⟨e4, e5, e6, e7, e8, e9, e10, e11⟩, ⟨g5, g6, g7, g8, g9, g10, g11⟩, ⟨h6, h7, h8, h9, h10, h11⟩, ⟨i7, i8, i9, i10, i11⟩, ⟨j8, j9, j10, j11⟩, ⟨l9, l10, l11⟩, ⟨m10, m11⟩, n11, _⟩ := hnd
  simp only [List.mem_cons, List.not_mem_nil, or_false, forall_eq_or_imp, forall_eq] at hsz
  obtain ⟨z0, z1, z2, z3, z4, z5, z6, z7, z8⟩ := hsz
  refine wp_region_two hm hB hap hap' ⟨rfl, rfl, rfl, rfl, rfl, rfl, rfl, rfl, rfl, rfl, rfl⟩ rfl (.agg vs.toArray) (.slice A n c) (.int .i64 k) (.pointer (some ⟨b, off, none⟩)) (.agg vi.toArray)
    (fun W => run_move_at _ (.inl rfl) hsl) (fun W => run_move_at _ (.inl rfl) ?_) (fun W => run_index_at TL _ _ rfl ?_ ?_ (hidx W)) (run_load_seg TS _ rfl gs 0 ?_ vs hcs ns hvs ds hds rs his) (run_load_seg TI _ rfl b off ?_ vi hci ni hvi di hdi ri hii)
    f #[.agg vs.toArray, .agg vi.toArray] (run_call_two f fn hf hn hb _ _ tys rfl ?_ ?_) ?_
  · simp [ev_far, Ne.symm, *]
  · simp [ev_far, ev_hit, size_put, Ne.symm, *]
  · simp [ev_far, ev_hit, size_put, Ne.symm, *]
  · simp [ev_far, ev_hit, size_put, Ne.symm, *]
  · simp [ev_far, ev_hit, size_put, Ne.symm, *]
  · simp [ev_far, ev_hit, size_put, Ne.symm, *]
  · simp [ev_far, ev_hit, size_put, Ne.symm, *]
  · refine h.mono ?_
    rintro e w6 ⟨vt, v, rfl, hl, h1, ht, hq⟩
    refine ⟨.tuple #[.agg vt.toArray, v], .agg vt.toArray, v, rfl, ?_, ?_, ?_, w6.setCells gs 0 vt, ?_, ?_, hq⟩
    · intro W
      refine run_move_at (.tmp d5) (.inl rfl) ?_
      simp [ev_far, ev_hit, size_put, Ne.symm, *]
    · intro W
      refine run_extract_at (.tmp d6) 0 rfl (vs := #[.agg vt.toArray, v]) ?_ rfl
      simp [ev_far, ev_hit, size_put, Ne.symm, *]
    · intro W
      refine run_extract_at (.tmp d6) 1 rfl (vs := #[.agg vt.toArray, v]) ?_ rfl
      simp [ev_far, ev_hit, size_put, Ne.symm, *]
    · refine run_store_seg TS (.tmp s) (.tmp d7) rfl gs 0 ?_ vt ?_ ns hl ht his h1
      · simp [ev_far, ev_hit, size_put, Ne.symm, *]
      · simp [ev_far, ev_hit, size_put, Ne.symm, *]
    · refine run_move_at (.tmp d8) (.inr rfl) ?_
      change Act.eval (Act.put _ (some d8) v) (.tmp d8) = v
      simp [ev_hit, size_put, *]
end
end Go.Proofs.YtlhnhdkbfkbafaaDoor
