/- What this text proves: a law for a region that leaves its order open and makes memory: each operation is judged once, in whatever world its turn comes, by what it yields. The conditions are checked by the kernel, or the law's own premises. -/
import Derived.Test.YtdeikpifflkabaaDoorBase
import Derived.StillTail
import Derived.BigFrame
import Derived.Deep.RegionHeld3
namespace Go.Proofs.YtdeikpifflkabaaDoor
open Go.RowKit
set_option linter.unusedVariables false
set_option linter.unusedSimpArgs false

section
variable {P : Program} {ops : Array Oper} {md : Region.Mode} {V : Nat → Value → World → Prop} {w0 : World} {a0 : Act}

def dstOf (ops : Array Oper) (j : Nat) : Option Tmp := (ops[j]?).bind (·.dst)
/-- What the kernel checks: each operation yields into a slot of its own, and waits for elder ones alone. -/
def eachB (ops : Array Oper) (n : Nat) : Bool :=
  (List.range ops.size).all fun i => match ops[i]? with
    | some o => (match o.dst with
        | some d => decide (d < n) && (List.range ops.size).all fun j => j == i || dstOf ops j != some d
        | none => false) && o.after.all fun e => decide (e.on < i)
    | none => false
theorem eachB_at {n i : Nat} {o : Oper} (h : eachB ops n = true) (hi : ops[i]? = some o) : ∃ d, o.dst = some d ∧ d < n ∧ (∀ j, j ≠ i → dstOf ops j ≠ some d) ∧ ∀ e ∈ o.after, e.on < i := by
  have hlt : i < ops.size := (Array.getElem?_eq_some_iff.1 hi).1
  have h1 := List.all_eq_true.1 h i (List.mem_range.2 hlt)
  simp only [hi, Bool.and_eq_true] at h1
  obtain ⟨h2, h3⟩ := h1
  cases hd : o.dst with
  | none => rw [hd] at h2; cases h2
  | some d =>
    rw [hd] at h2
    simp only [Bool.and_eq_true, decide_eq_true_eq] at h2
    refine ⟨d, rfl, h2.1, fun j hj hjd => ?_, fun e he => by simpa using (Array.all_eq_true'.1 h3) e he⟩
    have hjl : j < ops.size := by
      unfold dstOf at hjd
      rcases Nat.lt_or_ge j ops.size with h | h
      · exact h
      · rw [Array.getElem?_eq_none h] at hjd; cases hjd
    have := List.all_eq_true.1 h2.2 j (List.mem_range.2 hjl)
    simp only [Bool.or_eq_true, beq_iff_eq, bne_iff_ne] at this
    rcases this with h | h
    · exact hj h
    · exact h hjd
structure EachInv (ops : Array Oper) (V : Nat → Value → World → Prop) (w0 : World) (a0 : Act) (listed : Array Bool) (a : Act) (W : World) : Prop where
  lsz : listed.size = ops.size
  b : Below w0.heap.size w0 W
  size : a.tmps.size = a0.tmps.size
  defers : a.defers = a0.defers
  val : ∀ j d, dstOf ops j = some d → listed.getD j false = true → V j (a.tmps.getD d undef) W
  old : ∀ t, (∀ j, dstOf ops j ≠ some t) → a.tmps.getD t undef = a0.tmps.getD t undef
/-- What an operation may lean on when its turn comes. -/
structure EachPre (md : Region.Mode) (ops : Array Oper) (V : Nat → Value → World → Prop) (w0 : World) (a0 : Act) (o : Oper) (a : Act) (W : World) : Prop where
  b : Below w0.heap.size w0 W
  size : a.tmps.size = a0.tmps.size
  val : ∀ j d, dstOf ops j = some d → (o.after.any fun e => Region.binds md e && e.on == j) = true → V j (a.tmps.getD d undef) W
  old : ∀ t, (∀ j, dstOf ops j ≠ some t) → a.tmps.getD t undef = a0.tmps.getD t undef
/-- An operation's turn. -/
def EachDoes (P : Program) (ops : Array Oper) (V : Nat → Value → World → Prop) (i : Nat) (o : Oper) (a : Act) (W : World) : Prop :=
  Region.wanted o (yielded ops a.tmps) = true ∧ ∀ Q' : Exit → Act → World → Prop, o.wp P a W (fun a' W' => ∃ v, a' = a.put o.dst v ∧ V i v W' ∧ Below W.heap.size W W') Q'
theorem put_self {a : Act} {d : Tmp} {v : Value} (h : d < a.tmps.size) : (a.put (some d) v).tmps.getD d undef = v := by
  simp [Act.put, h]
theorem put_far {a : Act} {d t : Tmp} {v : Value} (h : d ≠ t) : (a.put (some d) v).tmps.getD t undef = a.tmps.getD t undef := by
  simp [Act.put, Array.getElem?_setIfInBounds_ne h]
theorem EachInv.next {n i : Nat} {o : Oper} {listed : Array Bool} {a : Act} {W W' : World} {v : Value} (hB : eachB ops a0.tmps.size = true) (hV : ∀ j v W W', V j v W → Below W.heap.size W W' → V j v W')
    (inv : EachInv ops V w0 a0 listed a W) (hi : ops[i]? = some o) (hv : V i v W') (hb : Below W.heap.size W W') : EachInv ops V w0 a0 (listed.setIfInBounds i true) (a.put o.dst v) W' := by
  obtain ⟨d, hd, hdn, hdist, _⟩ := eachB_at hB hi
  rw [hd]
  have hlt : i < ops.size := (Array.getElem?_eq_some_iff.1 hi).1
  refine ⟨by simp [inv.lsz], inv.b.trans (hb.mono inv.b.size), by simp [Act.put, inv.size], inv.defers, fun j dj hj hl => ?_, fun t ht => ?_⟩
  · by_cases e : j = i
    · subst e
      have : dj = d := by unfold dstOf at hj; rw [hi] at hj; simpa [hd] using hj.symm
      subst this
      rw [put_self (by rw [inv.size]; exact hdn)]
      exact hv
    · have hne : d ≠ dj := fun e' => hdist j e (by rw [e']; exact hj)
      rw [put_far hne]
      rw [getD_set_ne false (Ne.symm e)] at hl
      exact hV _ _ _ _ (inv.val j dj hj hl) hb
  · have hne : d ≠ t := fun e' => ht i (by unfold dstOf; rw [hi]; simp [hd, e'])
    rw [put_far hne]
    exact inv.old t ht
theorem all_listed {n : Nat} {listed : Array Bool} (hB : eachB ops n = true) (hsz : listed.size = ops.size) (h : Region.ready md ops listed = []) : ∀ i, i < ops.size → listed.getD i false = true := by
  intro i
  induction i using Nat.strongRecOn with
  | _ i ih =>
    intro hi
    cases hl : listed.getD i false with
    | true => rfl
    | false =>
      exfalso
      have hio : ops[i]? = some ops[i] := Array.getElem?_eq_getElem hi
      obtain ⟨d, hd, _, _, haf⟩ := eachB_at hB hio
      have : i ∈ Region.ready md ops listed := mem_ready.2 ⟨getD_in (by rw [hsz]; exact hi) hl, _, hio, fun e he hb => by
        have := haf e he
        exact ih e.on this (by omega)⟩
      rw [h] at this
      cases this
/-- How many have come up. -/
def ups (listed : Array Bool) : Nat := listed.toList.count true
theorem ups_set {listed : Array Bool} {i : Nat} (h : listed.getD i true = false) : ups (listed.setIfInBounds i true) = ups listed + 1 := by
  have hi : i < listed.size := by
    rcases Nat.lt_or_ge i listed.size with h' | h'
    · exact h'
    · simp [Array.getElem?_eq_none h'] at h
  have hv : listed.toList[i]'(by simpa using hi) = false := by
    simp [hi] at h
    simpa using h
  unfold ups
  rw [Array.toList_setIfInBounds, List.count_set (by simpa using hi), hv]
  simp
theorem ups_all {listed : Array Bool} (h : ups listed = listed.size) : ∀ i, i < listed.size → listed.getD i false = true := by
  intro i hi
  unfold ups at h
  have h1 := List.count_eq_length.1 (by simpa using h : listed.toList.count true = listed.toList.length) (listed.toList[i]'(by simpa using hi)) (List.getElem_mem _)
  simp [hi]
  simpa using h1.symm
theorem each_any {Q : Exit → Act → World → Prop} (hB : eachB ops a0.tmps.size = true) (hV : ∀ j v W W', V j v W → Below W.heap.size W W' → V j v W')
    (step : ∀ i o, ops[i]? = some o → ∀ a W, EachPre md ops V w0 a0 o a W → EachDoes P ops V i o a W)
    (fin : ∀ a W, Below w0.heap.size w0 W → a.tmps.size = a0.tmps.size → a.defers = a0.defers → (∀ j d, dstOf ops j = some d → V j (a.tmps.getD d undef) W) → (∀ t, (∀ j, dstOf ops j ≠ some t) → a.tmps.getD t undef = a0.tmps.getD t undef) → Q .normal a W) :
    ∀ (fuel : Nat) (listed : Array Bool) (a : Act) (W : World), ups listed + fuel = ops.size → EachInv ops V w0 a0 listed a W → wpAny P md ops Q fuel listed a W := by
  have done : ∀ (listed : Array Bool) (a : Act) (W : World), EachInv ops V w0 a0 listed a W → Region.ready md ops listed = [] → Q .normal a W := fun listed a W inv hr =>
    fin a W inv.b inv.size inv.defers (fun j d hj => inv.val j d hj (all_listed hB inv.lsz hr j (by
      unfold dstOf at hj
      rcases Nat.lt_or_ge j ops.size with h | h
      · exact h
      · rw [Array.getElem?_eq_none h] at hj; cases hj))) inv.old
  intro fuel
  induction fuel with
  | zero =>
    intro listed a W hu inv
    have hall := ups_all (listed := listed) (by rw [inv.lsz]; omega)
    have hr : Region.ready md ops listed = [] := by
      refine List.eq_nil_iff_forall_not_mem.2 fun i hi => ?_
      obtain ⟨h1, o, ho, _⟩ := mem_ready.1 hi
      have hlt : i < ops.size := (Array.getElem?_eq_some_iff.1 ho).1
      have := hall i (by rw [inv.lsz]; exact hlt)
      rw [getD_both h1] at this
      cases this
    exact ⟨hr, done listed a W inv hr⟩
  | succ fuel ih =>
    intro listed a W hu inv
    refine ⟨done listed a W inv, fun i hi => ?_⟩
    obtain ⟨hun, o, ho, hall⟩ := mem_ready.1 hi
    obtain ⟨hw, hdo⟩ := step i o ho a W ⟨inv.b, inv.size, fun j d hj hwait => inv.val j d hj (by
      obtain ⟨e, he, hb⟩ := Array.any_eq_true'.1 hwait
      simp only [Bool.and_eq_true, beq_iff_eq] at hb
      rw [← hb.2]
      exact hall e he hb.1), inv.old⟩
    unfold wpOp
    simp only [ho, hw, if_true]
    refine .inl (Oper.wp_mono ?_ (hdo Q))
    rintro a' W' ⟨v, rfl, hv, hb⟩
    exact ih _ _ _ (by rw [ups_set hun]; omega) (inv.next (n := 0) hB hV ho hv hb)
/-- All operations' turns, one after another. -/
def AllTurns (T : Nat → Oper → Prop) : List Oper → Nat → Prop
  | [], _ => True
  | o :: r, i => T i o ∧ AllTurns T r (i + 1)
theorem AllTurns.at_ {T : Nat → Oper → Prop} : ∀ {l : List Oper} {k i : Nat} {o : Oper}, AllTurns T l k → l[i]? = some o → T (k + i) o
  | [], _, _, _, _, h => by simp at h
  | x :: r, k, 0, o, ha, h => by simp at h; subst h; exact ha.1
  | x :: r, k, i + 1, o, ha, h => by
    rw [List.getElem?_cons_succ] at h
    have := AllTurns.at_ ha.2 h
    rwa [show k + 1 + i = k + (i + 1) by omega] at this
theorem wp_region_each {id : Nat} {Q : Exit → Act → World → Prop} {w : World} {l : List Oper} (V : Nat → Value → World → Prop) (hm : P.follows .mixedOrders = true) (hB : eachB l.toArray a0.tmps.size = true) (hV : ∀ j v W W', V j v W → Below W.heap.size W W' → V j v W')
    (turns : AllTurns (fun i o => ∀ a W, EachPre .any l.toArray V w.drew a0 o a W → EachDoes P l.toArray V i o a W) l 0)
    (fin : ∀ a W, Below w.drew.heap.size w.drew W → a.tmps.size = a0.tmps.size → a.defers = a0.defers → (∀ j d, dstOf l.toArray j = some d → V j (a.tmps.getD d undef) W) → (∀ t, (∀ j, dstOf l.toArray j ≠ some t) → a.tmps.getD t undef = a0.tmps.getD t undef) → Q .normal a W) :
    (Code.region id l.toArray true).wp P Q a0 w :=
  wp_region_any hm (each_any hB hV (fun i o h => (by have := turns.at_ (i := i) (o := o) (by simpa using h); rwa [Nat.zero_add] at this)) fin _ _ _ _ (by simp [ups, List.count_replicate]) ⟨by simp, Below.refl _ _, rfl, rfl, fun j d _ hl => (by rw [getD_replicate_false] at hl; cases hl), fun _ _ => rfl⟩)

theorem no_dst {t : Nat} (h : (List.range ops.size).all (fun j => dstOf ops j != some t) = true) (j : Nat) : dstOf ops j ≠ some t := fun e => by
  have hj : j < ops.size := by
    unfold dstOf at e
    rcases Nat.lt_or_ge j ops.size with h' | h'
    · exact h'
    · rw [Array.getElem?_eq_none h'] at e; cases e
  have := List.all_eq_true.1 h j (List.mem_range.2 hj)
  simp only [bne_iff_ne] at this
  exact this e
theorem EachPre.was {o : Oper} {a : Act} {W : World} (pre : EachPre md ops V w0 a0 o a W) (t : Nat) (h : (List.range ops.size).all (fun j => dstOf ops j != some t) = true) {v : Value} (hv : a0.tmps.getD t undef = v) : a.eval (.tmp t) = v :=
  (pre.old t (no_dst h)).trans hv
/-! The turns of single operations. -/
variable {i : Nat} {o : Oper} {a : Act} {W : World}
theorem does_val {v : Value} (hw : Region.wanted o (yielded ops a.tmps) = true) (hr : (execOp a.eval o).run P W = .ok (.value v) W) (hv : V i v W) : EachDoes P ops V i o a W :=
  ⟨hw, fun Q' => by unfold Oper.wp; rw [hr]; exact ⟨v, rfl, hv, Below.refl _ _⟩⟩
theorem does_new {v : Value} {W' : World} (hw : Region.wanted o (yielded ops a.tmps) = true) (hr : (execOp a.eval o).run P W = .ok (.value v) W') (hb : Below W.heap.size W W') (hv : V i v W') : EachDoes P ops V i o a W :=
  ⟨hw, fun Q' => by unfold Oper.wp; rw [hr]; exact ⟨v, rfl, hv, hb⟩⟩
theorem does_call {f : FuncId} {args : Array Value} {v : Value} (hw : Region.wanted o (yielded ops a.tmps) = true) (hr : (execOp a.eval o).run P W = .ok (.enter f args) W)
    (hc : Calls P f args W fun e W' => e = .returned v ∧ Below W.heap.size W W') (hv : ∀ W', V i v W') : EachDoes P ops V i o a W :=
  ⟨hw, fun Q' => by
    unfold Oper.wp
    rw [hr, Oper.upon_enter]
    refine Calls.mono hc fun e W' he => ?_
    obtain ⟨rfl, hb⟩ := he
    exact ⟨v, rfl, hv W', hb⟩⟩
theorem want_none (h : o.guard = none) : Region.wanted o (yielded ops a.tmps) = true := by simp [Region.wanted, h]
theorem want_some {g dg : Nat} {b : Bool} (h : o.guard = some (g, b)) (hd : dstOf ops g = some dg) (hs : dg < a.tmps.size) (hv : a.tmps.getD dg undef = .bool b) : Region.wanted o (yielded ops a.tmps) = true := by
  have hv' : a.tmps[dg]? = some (.bool b) := by
    rw [Array.getElem?_eq_getElem hs]
    simp [hs] at hv
    rw [hv]
  have hy : yielded ops a.tmps g = some b := by
    unfold yielded
    unfold dstOf at hd
    rw [hd]
    simp [hv']
  simp [Region.wanted, h, hy]
end
end Go.Proofs.YtdeikpifflkabaaDoor
