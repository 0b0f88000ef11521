/- What this text proves: a law for a region that leaves its order open, makes memory and stores: each operation is judged once, in whatever world its turn comes, by what it leaves at a slot; what an operation does to the memory may be of its own kind, if what the others left outlives it. The conditions are checked by the kernel, or the law's own premises. -/
import Derived.Test.YtlhnhdkbfkbafaaDoorEachTail
import Derived.Test.YtlhnhdkbfkbafaaDoorAgg
namespace Go.Proofs.YtlhnhdkbfkbafaaDoor
open Go.RowKit
set_option linter.unusedVariables false
set_option linter.unusedSimpArgs false

section
variable {P : Program} {ops : Array Oper} {md : Region.Mode} {V : Nat → Value → World → Prop} {S : Nat → World → World → Prop} {sl : Nat → Tmp} {w0 : World} {a0 : Act}
/-- Does operation j wait for i? -/
def waitsB (md : Region.Mode) (ops : Array Oper) (j i : Nat) : Bool := match ops[j]? with
  | some o => o.after.any fun e => Region.binds md e && e.on == i
  | none => false
/-- What the kernel checks. -/
def everyB (md : Region.Mode) (ops : Array Oper) (sl : Nat → Tmp) (n : Nat) : Bool :=
  (List.range ops.size).all fun i => match ops[i]? with
    | some o => (match o.dst with
        | some d => decide (d < n) && (List.range ops.size).all fun j => j == i || sl j != d || waitsB md ops j i
        | none => true) && o.after.all fun e => !Region.binds md e || decide (e.on < i)
    | none => false
theorem everyB_at {n i : Nat} {o : Oper} (h : everyB md ops sl n = true) (hi : ops[i]? = some o) : (∀ d, o.dst = some d → d < n ∧ ∀ j, j < ops.size → j ≠ i → sl j = d → waitsB md ops j i = true) ∧ ∀ e ∈ o.after, Region.binds md e = true → e.on < i := by
  have hlt : i < ops.size := (Array.getElem?_eq_some_iff.1 hi).1
  have h1 := List.all_eq_true.1 h i (List.mem_range.2 hlt)
  simp only [hi, Bool.and_eq_true] at h1
  obtain ⟨h2, h3⟩ := h1
  refine ⟨fun d hd => ?_, fun e he hb => by have := (Array.all_eq_true'.1 h3) e he; simpa [hb] using this⟩
  rw [hd] at h2
  simp only [Bool.and_eq_true, decide_eq_true_eq] at h2
  refine ⟨h2.1, fun j hj hne hsl => ?_⟩
  have := List.all_eq_true.1 h2.2 j (List.mem_range.2 hj)
  simp only [Bool.or_eq_true, beq_iff_eq, bne_iff_ne] at this
  rcases this with (h | h) | h
  · exact absurd h hne
  · exact absurd hsl h
  · exact h
structure EvInv (md : Region.Mode) (ops : Array Oper) (V : Nat → Value → World → Prop) (sl : Nat → Tmp) (w0 : World) (a0 : Act) (listed : Array Bool) (a : Act) (W : World) : Prop where
  lsz : listed.size = ops.size
  b : Below w0.heap.size w0 W
  size : a.tmps.size = a0.tmps.size
  defers : a.defers = a0.defers
  val : ∀ j, j < ops.size → listed.getD j false = true → V j (a.tmps.getD (sl j) undef) W
  old : ∀ t, (∀ j, dstOf ops j ≠ some t) → a.tmps.getD t undef = a0.tmps.getD t undef
  closed : ∀ j i, listed.getD j false = true → waitsB md ops j i = true → listed.getD i false = true
structure EvPre (md : Region.Mode) (ops : Array Oper) (V : Nat → Value → World → Prop) (sl : Nat → Tmp) (w0 : World) (a0 : Act) (i : Nat) (a : Act) (W : World) : Prop where
  b : Below w0.heap.size w0 W
  size : a.tmps.size = a0.tmps.size
  val : ∀ j, waitsB md ops i j = true → V j (a.tmps.getD (sl j) undef) W
  old : ∀ t, (∀ j, dstOf ops j ≠ some t) → a.tmps.getD t undef = a0.tmps.getD t undef
def EvTurn (P : Program) (ops : Array Oper) (V : Nat → Value → World → Prop) (S : Nat → World → World → Prop) (sl : Nat → Tmp) (i : Nat) (o : Oper) (a : Act) (W : World) : Prop :=
  (Region.wanted o (yielded ops a.tmps) = true ∧ ∀ Q' : Exit → Act → World → Prop, o.wp P a W (fun a' W' => ∃ v, a' = a.put o.dst v ∧ V i ((a.put o.dst v).tmps.getD (sl i) undef) W' ∧ S i W W') Q')
    ∨ (Region.wanted o (yielded ops a.tmps) = false ∧ V i ((a.put o.dst undef).tmps.getD (sl i) undef) W ∧ S i W W)
theorem put_nowhere (a : Act) (v : Value) : (a.put none v).tmps = a.tmps := rfl
theorem EvInv.step {n i : Nat} {o : Oper} {listed : Array Bool} {a : Act} {W W' : World} {v : Value} (hB : everyB md ops sl a0.tmps.size = true) (hV : ∀ i j v W W', i ≠ j → V j v W → S i W W' → V j v W') (hS : ∀ i W W', Below w0.heap.size w0 W → S i W W' → Below w0.heap.size w0 W')
    (inv : EvInv md ops V sl w0 a0 listed a W) (hun : listed.getD i true = false) (hi : ops[i]? = some o) (hall : ∀ e ∈ o.after, Region.binds md e = true → listed.getD e.on false = true) (hv : V i ((a.put o.dst v).tmps.getD (sl i) undef) W') (hs : S i W W') :
    EvInv md ops V sl w0 a0 (listed.setIfInBounds i true) (a.put o.dst v) W' := by
  obtain ⟨hd, haf⟩ := everyB_at hB hi
  have hlt : i < ops.size := (Array.getElem?_eq_some_iff.1 hi).1
  refine ⟨by simp [inv.lsz], hS _ _ _ inv.b hs, by cases o.dst <;> simp [Act.put, inv.size], by rw [← inv.defers]; cases o.dst <;> rfl, fun j hj hl => ?_, fun t ht => ?_, fun j k hl hw => ?_⟩
  · by_cases e : j = i
    · subst e; exact hv
    · rw [getD_set_ne false (Ne.symm e)] at hl
      have h0 := inv.val j hj hl
      have h1 : (a.put o.dst v).tmps.getD (sl j) undef = a.tmps.getD (sl j) undef := by
        cases hdo : o.dst with
        | none => rfl
        | some d =>
          refine put_far fun he => ?_
          have hw := (hd d hdo).2 j hj e he.symm
          have h2 := inv.closed j i hl hw
          rw [getD_both hun] at h2
          cases h2
      rw [h1]
      exact hV _ _ _ _ _ (Ne.symm e) h0 hs
  · cases hdo : o.dst with
    | none => exact inv.old t ht
    | some d =>
      have hne : d ≠ t := fun e' => ht i (by unfold dstOf; rw [hi]; simp [hdo, e'])
      rw [put_far hne]
      exact inv.old t ht
  · by_cases e : k = i
    · subst e
      have hk : k < listed.size := by rw [inv.lsz]; exact hlt
      simp [hk]
    · rw [getD_set_ne false (Ne.symm e)]
      by_cases e2 : j = i
      · subst e2
        unfold waitsB at hw
        rw [hi] at hw
        obtain ⟨x, hx, hb⟩ := Array.any_eq_true'.1 hw
        simp only [Bool.and_eq_true, beq_iff_eq] at hb
        rw [← hb.2]
        exact hall x hx hb.1
      · rw [getD_set_ne false (Ne.symm e2)] at hl
        exact inv.closed j k hl hw
theorem every_listed {n : Nat} {listed : Array Bool} (hB : everyB md ops sl n = true) (hsz : listed.size = ops.size) (h : Region.ready md ops listed = []) : ∀ i, i < ops.size → listed.getD i false = true := by
  intro i
  induction i using Nat.strongRecOn with
  | _ i ih =>
    intro hi
    cases hl : listed.getD i false with
    | true => rfl
    | false =>
      exfalso
      have hio : ops[i]? = some ops[i] := Array.getElem?_eq_getElem hi
      obtain ⟨_, haf⟩ := everyB_at hB hio
      have : i ∈ Region.ready md ops listed := mem_ready.2 ⟨getD_in (by rw [hsz]; exact hi) hl, _, hio, fun e he hb => by
        have := haf e he hb
        exact ih e.on this (by omega)⟩
      rw [h] at this
      cases this
theorem every_any {Q : Exit → Act → World → Prop} (hB : everyB md ops sl a0.tmps.size = true) (hV : ∀ i j v W W', i ≠ j → V j v W → S i W W' → V j v W') (hS : ∀ i W W', Below w0.heap.size w0 W → S i W W' → Below w0.heap.size w0 W')
    (step : ∀ i o, ops[i]? = some o → ∀ a W, EvPre md ops V sl w0 a0 i a W → EvTurn P ops V S sl i o a W)
    (fin : ∀ a W, Below w0.heap.size w0 W → a.tmps.size = a0.tmps.size → a.defers = a0.defers → (∀ j, j < ops.size → V j (a.tmps.getD (sl j) undef) W) → (∀ t, (∀ j, dstOf ops j ≠ some t) → a.tmps.getD t undef = a0.tmps.getD t undef) → Q .normal a W) :
    ∀ (fuel : Nat) (listed : Array Bool) (a : Act) (W : World), ups listed + fuel = ops.size → EvInv md ops V sl w0 a0 listed a W → wpAny P md ops Q fuel listed a W := by
  have done : ∀ (listed : Array Bool) (a : Act) (W : World), EvInv md ops V sl w0 a0 listed a W → Region.ready md ops listed = [] → Q .normal a W := fun listed a W inv hr =>
    fin a W inv.b inv.size inv.defers (fun j hj => inv.val j hj (every_listed hB inv.lsz hr j hj)) inv.old
  intro fuel
  induction fuel with
  | zero =>
    intro listed a W hu inv
    have hall := ups_all (listed := listed) (by rw [inv.lsz]; omega)
    have hr : Region.ready md ops listed = [] := by
      refine List.eq_nil_iff_forall_not_mem.2 fun i hi => ?_
      obtain ⟨h1, o, ho, _⟩ := mem_ready.1 hi
      have hlt : i < ops.size := (Array.getElem?_eq_some_iff.1 ho).1
      have := hall i (by rw [inv.lsz]; exact hlt)
      rw [getD_both h1] at this
      cases this
    exact ⟨hr, done listed a W inv hr⟩
  | succ fuel ih =>
    intro listed a W hu inv
    refine ⟨done listed a W inv, fun i hi => ?_⟩
    obtain ⟨hun, o, ho, hall⟩ := mem_ready.1 hi
    have hpre : EvPre md ops V sl w0 a0 i a W := ⟨inv.b, inv.size, fun j hw => by
      unfold waitsB at hw
      rw [ho] at hw
      obtain ⟨x, hx, hb⟩ := Array.any_eq_true'.1 hw
      simp only [Bool.and_eq_true, beq_iff_eq] at hb
      have hl := hall x hx hb.1
      rw [hb.2] at hl
      have hj : j < ops.size := by
        have := (everyB_at hB ho).2 x hx hb.1
        have := (Array.getElem?_eq_some_iff.1 ho).1
        omega
      exact inv.val j hj hl, inv.old⟩
    unfold wpOp
    rcases step i o ho a W hpre with ⟨hw, hdo⟩ | ⟨hw, hv, hs⟩
    · simp only [ho, hw, if_true]
      refine .inl (Oper.wp_mono ?_ (hdo Q))
      rintro a' W' ⟨v, rfl, hv, hs⟩
      exact ih _ _ _ (by rw [ups_set hun]; omega) (inv.step (n := 0) hB hV hS hun ho hall hv hs)
    · simp only [ho, hw, Bool.false_eq_true, if_false]
      exact ih _ _ _ (by rw [ups_set hun]; omega) (inv.step (n := 0) hB hV hS hun ho hall hv hs)
theorem wp_region_every {id : Nat} {Q : Exit → Act → World → Prop} {w : World} {l : List Oper} (V : Nat → Value → World → Prop) (S : Nat → World → World → Prop) (sl : Nat → Tmp) (hm : P.follows .mixedOrders = true) (hB : everyB .any l.toArray sl a0.tmps.size = true)
    (hV : ∀ i j v W W', i ≠ j → V j v W → S i W W' → V j v W') (hS : ∀ i W W', Below w.drew.heap.size w.drew W → S i W W' → Below w.drew.heap.size w.drew W')
    (turns : AllTurns (fun i o => ∀ a W, EvPre .any l.toArray V sl w.drew a0 i a W → EvTurn P l.toArray V S sl i o a W) l 0)
    (fin : ∀ a W, Below w.drew.heap.size w.drew W → a.tmps.size = a0.tmps.size → a.defers = a0.defers → (∀ j, j < l.toArray.size → V j (a.tmps.getD (sl j) undef) W) → (∀ t, (∀ j, dstOf l.toArray j ≠ some t) → a.tmps.getD t undef = a0.tmps.getD t undef) → Q .normal a W) :
    (Code.region id l.toArray true).wp P Q a0 w :=
  wp_region_any hm (every_any (S := S) hB hV hS (fun i o h => (by have := turns.at_ (i := i) (o := o) (by simpa using h); rwa [Nat.zero_add] at this)) fin _ _ _ _ (by simp [ups, List.count_replicate])
    ⟨by simp, Below.refl _ _, rfl, rfl, fun j _ hl => (by rw [getD_replicate_false] at hl; cases hl), fun _ _ => rfl, fun j i hl _ => (by rw [getD_replicate_false] at hl; cases hl)⟩)
theorem EvPre.was {i : Nat} {a : Act} {W : World} (pre : EvPre md ops V sl w0 a0 i a W) (t : Nat) (h : (List.range ops.size).all (fun j => dstOf ops j != some t) = true) {v : Value} (hv : a0.tmps.getD t undef = v) : a.eval (.tmp t) = v :=
  (pre.old t (no_dst h)).trans hv
theorem EachDoes.turn {i : Nat} {o : Oper} {a : Act} {W : World} (h : EachDoes P ops V i o a W) (hd : o.dst = some (sl i)) (hs : sl i < a.tmps.size) (hS : ∀ W', Below W.heap.size W W' → S i W W') : EvTurn P ops V S sl i o a W :=
  .inl ⟨h.1, fun Q' => Oper.wp_mono (fun a' W' ⟨v, e, hv, hb⟩ => ⟨v, e, by rw [hd, put_self hs]; exact hv, hS W' hb⟩) (h.2 Q')⟩
theorem skip_turn {i : Nat} {o : Oper} {a : Act} {W : World} (hw : Region.wanted o (yielded ops a.tmps) = false) (hd : o.dst = some (sl i)) (hs : sl i < a.tmps.size) (hv : V i undef W) (hS : S i W W) : EvTurn P ops V S sl i o a W :=
  .inr ⟨hw, by rw [hd, put_self hs]; exact hv, hS⟩
/-- An operation without a result that does something to the memory. -/
theorem run_turn {i : Nat} {o : Oper} {a : Act} {W W' : World} {v : Value} (hw : Region.wanted o (yielded ops a.tmps) = true) (hd : o.dst = none) (hr : (execOp a.eval o).run P W = .ok (.value v) W') (hv : V i (a.tmps.getD (sl i) undef) W') (hS : S i W W') : EvTurn P ops V S sl i o a W :=
  .inl ⟨hw, fun Q' => by unfold Oper.wp; rw [hr]; exact ⟨v, rfl, by rw [hd, put_nowhere]; exact hv, hS⟩⟩
theorem puts_turn {i : Nat} {o : Oper} {a : Act} {W : World} (hw : Region.wanted o (yielded ops a.tmps) = true) (hd : o.dst = none) (ty : TypeId) (x y : Operand) (ho : o.op = .store ty x y)
    (g off : Nat) (hx : a.eval x = .pointer (some ⟨g, off, none⟩)) (vs : List Value) (hy : a.eval y = .agg vs.toArray) (T : TypeId) (cs : List Value) (hg : Bk W g T cs.toArray) (n : Nat) (hn : vs.length = n) (hl : off + n ≤ cs.length) (hi : (P.info? ty).map (·.size) = some n) (h1 : vs.toArray.all (·.oneCell') = true)
    (h : ∀ w', Bk w' g T (put cs off vs).toArray → Moves (fun k _ => k = g) W w' → V i (a.tmps.getD (sl i) undef) w' ∧ S i W w') : EvTurn P ops V S sl i o a W := by
  have ht : W.there g off vs.toArray.size := fun j hj => by
    have hj' : j < vs.length := by simpa using hj
    refine ⟨?_, hg.frozen _⟩
    rw [hg.cell, List.getElem?_toArray, List.getElem?_eq_getElem (by omega)]
    rfl
  have hm := Moves.puts (X := fun k _ => k = g) (g := g) (fun _ => rfl) vs off W
  obtain ⟨h2, h3⟩ := h _ (Bk.puts vs cs off W hg (by omega)) hm
  refine .inl ⟨hw, fun Q' => wp_store_mid ty x y ho g off vs.toArray hx hy ht (by simpa [hn] using hi) h1 ⟨undef, rfl, ?_, h3⟩⟩
  rw [hd, put_nowhere]
  exact h2
/-- What a world's change is: one block of its own made anew at operation k, else nothing elder changed. -/
def Anew (N : Nat) (T : TypeId) (n : Nat) (W W' : World) : Prop := ∃ g c c2, Bk W g T c ∧ Bk W' g T c2 ∧ c.size = n ∧ c2.size = n ∧ N ≤ g ∧ Moves (fun k _ => k = g) W W'
def stepS (N : Nat) (T : TypeId) (n k i : Nat) (W W' : World) : Prop := if i = k then Anew N T n W W' else Below W.heap.size W W'
def Keeps (N : Nat) (T : TypeId) (n : Nat) (p : Value → World → Prop) : Prop := ∀ v W W', p v W → Anew N T n W W' → p v W'
theorem keeps_eq {N n : Nat} {T : TypeId} (p : Value → Prop) : Keeps N T n fun v _ => p v := fun _ _ _ h _ => h
theorem stepS_base {N n k : Nat} {T : TypeId} {w : World} (hN : w.heap.size = N) (i : Nat) (W W' : World) (hb : Below w.heap.size w W) (h : stepS N T n k i W W') : Below w.heap.size w W' := by
  unfold stepS at h
  split at h
  · obtain ⟨g, c, c2, h1, h2, _, _, hg, hm⟩ := h
    exact hb.trans (hm.to_below hb.size (fun k _ e => by omega))
  · exact hb.trans (h.mono hb.size)
theorem stepS_on {N n k : Nat} {T : TypeId} {l1 l2 : List (Value → World → Prop)} {p : Value → World → Prop} (hk : l1.length = k) (h1 : ∀ q ∈ l1 ++ p :: l2, Remains q) (h2 : ∀ q ∈ l1 ++ l2, Keeps N T n q) :
    ∀ i j v W W', i ≠ j → lstV (l1 ++ p :: l2) j v W → stepS N T n k i W W' → lstV (l1 ++ p :: l2) j v W' := by
  intro i j v W W' hij hv hs
  unfold stepS at hs
  split at hs
  · rename_i he
    unfold lstV at hv ⊢
    rcases Nat.lt_or_ge j k with h | h
    · rw [List.getElem?_append_left (by omega)] at hv ⊢
      cases hj : l1[j]? with
      | none => trivial
      | some q => rw [hj] at hv; exact h2 q (List.mem_append_left _ (List.mem_of_getElem? hj)) _ _ _ hv hs
    · rw [List.getElem?_append_right (by omega)] at hv ⊢
      obtain ⟨m, hm⟩ : ∃ m, j - l1.length = m + 1 := ⟨j - l1.length - 1, by omega⟩
      rw [hm, List.getElem?_cons_succ] at hv ⊢
      cases hj : l2[m]? with
      | none => trivial
      | some q => rw [hj] at hv; exact h2 q (List.mem_append_right _ (List.mem_of_getElem? hj)) _ _ _ hv hs
  · exact lstV_on h1 j v W W' hv hs
end
end Go.Proofs.YtlhnhdkbfkbafaaDoor
