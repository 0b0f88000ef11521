/- What this text proves: the law of EachTail for regions with edges that do not bind when an order is drawn. The conditions are checked by the kernel, or the law's own premises. the law of EachBind where one operation that only reckons need not be ahead of the tail. The conditions are checked by the kernel, or the law's own premises. -/
import Derived.Test.YtdeikpifflkabaaDoorEachTail
namespace Go.Proofs.YtdeikpifflkabaaDoor
open Go.RowKit
set_option linter.unusedVariables false
set_option linter.unusedSimpArgs false

section
variable {P : Program} {ops : Array Oper} {md : Region.Mode} {V : Nat → Value → World → Prop} {w0 : World} {a0 : Act}
/-- What the kernel checks of the first n operations. -/
def eachBB (md : Region.Mode) (ops : Array Oper) (n m : Nat) : Bool :=
  (List.range n).all fun i => match ops[i]? with
    | some o => (match o.dst with
        | some d => decide (d < m) && (List.range ops.size).all fun j => j == i || dstOf ops j != some d
        | none => false) && o.after.all fun e => !Region.binds md e || decide (e.on < i)
    | none => false
theorem eachBB_at {n m i : Nat} {o : Oper} (h : eachBB md ops n m = true) (hin : i < n) (hi : ops[i]? = some o) : ∃ d, o.dst = some d ∧ d < m ∧ (∀ j, j ≠ i → dstOf ops j ≠ some d) ∧ ∀ e ∈ o.after, Region.binds md e = true → e.on < i := by
  have h1 := List.all_eq_true.1 h i (List.mem_range.2 hin)
  simp only [hi, Bool.and_eq_true] at h1
  obtain ⟨h2, h3⟩ := h1
  cases hd : o.dst with
  | none => rw [hd] at h2; cases h2
  | some d =>
    rw [hd] at h2
    simp only [Bool.and_eq_true, decide_eq_true_eq] at h2
    refine ⟨d, rfl, h2.1, fun j hj hjd => ?_, fun e he hb => by have := (Array.all_eq_true'.1 h3) e he; simpa [hb] using this⟩
    have hjl : j < ops.size := by
      unfold dstOf at hjd
      rcases Nat.lt_or_ge j ops.size with h | h
      · exact h
      · rw [Array.getElem?_eq_none h] at hjd; cases hjd
    have := List.all_eq_true.1 h2.2 j (List.mem_range.2 hjl)
    simp only [Bool.or_eq_true, beq_iff_eq, bne_iff_ne] at this
    rcases this with h | h
    · exact hj h
    · exact h hjd
theorem each_tailB {Q : Exit → Act → World → Prop} {n : Nat} (hn : n < ops.size) (hB : eachBB md ops n a0.tmps.size = true) (hs : Region.sinkB md ops n = true) (hc : Region.chainB md ops n = true) (hV : ∀ j v W W', V j v W → Below W.heap.size W W' → V j v W')
    (step : ∀ i o, i < n → ops[i]? = some o → ∀ a W, EachPre md ops V w0 a0 o a W → EachTurn P ops V i o a W)
    (fin : ∀ a W, Below w0.heap.size w0 W → a.tmps.size = a0.tmps.size → a.defers = a0.defers → (∀ j d, j < n → dstOf ops j = some d → V j (a.tmps.getD d undef) W) → (∀ t, (∀ j, dstOf ops j ≠ some t) → a.tmps.getD t undef = a0.tmps.getD t undef) → wpAny P md ops Q (ops.size - n) (LT ops.size n) a W) :
    ∀ (f : Nat) (listed : Array Bool) (a : Act) (W : World), ups listed + f = n → HeadInv md ops n listed → EachInv ops V w0 a0 listed a W → wpAny P md ops Q (f + (ops.size - n)) listed a W := by
  intro f
  induction f with
  | zero =>
    intro listed a W hu hinv inv
    have hall := (ups_head (by rw [hinv.size]; omega) (fun t h1 h2 => hinv.tail t h1 (by rw [hinv.size] at h2; exact h2))).1 (by omega)
    rw [listed_LT hinv.size hall hinv.tail, Nat.zero_add]
    exact fin a W inv.b inv.size inv.defers (fun j d hj hd => inv.val j d hd (hall j hj)) inv.old
  | succ f ih =>
    intro listed a W hu hinv inv
    have hnot : ¬ ∀ i, i < n → listed.getD i false = true := fun h => by
      have := (ups_head (by rw [hinv.size]; omega) (fun t h1 h2 => hinv.tail t h1 (by rw [hinv.size] at h2; exact h2))).2 h
      omega
    obtain ⟨i0, hi0, hun⟩ : ∃ i, i < n ∧ listed.getD i true = false := by
      apply Classical.byContradiction
      intro h
      apply hnot
      intro i hi
      cases hl : listed.getD i false with
      | true => rfl
      | false => exact absurd ⟨i, hi, getD_in (by rw [hinv.size]; omega) hl⟩ h
    rw [show f + 1 + (ops.size - n) = (f + (ops.size - n)) + 1 by omega]
    refine ⟨fun hr => ?_, fun i hi => ?_⟩
    · exfalso
      apply hnot
      intro i
      induction i using Nat.strongRecOn with
      | _ i ihh =>
        intro hin
        cases hl : listed.getD i false with
        | true => rfl
        | false =>
          exfalso
          have hio : ops[i]? = some ops[i] := Array.getElem?_eq_getElem (by omega)
          obtain ⟨d, hd, _, _, haf⟩ := eachBB_at hB hin hio
          have : i ∈ Region.ready md ops listed := mem_ready.2 ⟨getD_in (by rw [hinv.size]; omega) hl, _, hio, fun e he hb => ihh e.on (haf e he hb) (by have := haf e he hb; omega)⟩
          rw [hr] at this
          cases this
    · obtain ⟨hun2, o, ho, hall⟩ := mem_ready.1 hi
      have hin : i < n := by
        rcases Nat.lt_or_ge i n with h | h
        · exact h
        · exact absurd hi (tail_waits hs hc hn hinv _ i0 rfl hi0 hun i h)
      obtain ⟨d, hd, hdn, hdist, _⟩ := eachBB_at hB hin ho
      rcases step i o hin ho a W ⟨inv.b, inv.size, fun j dj hj hwait => inv.val j dj hj (by
        obtain ⟨e, he, hb⟩ := Array.any_eq_true'.1 hwait
        simp only [Bool.and_eq_true, beq_iff_eq] at hb
        rw [← hb.2]
        exact hall e he hb.1), inv.old⟩ with ⟨hw, hdo⟩ | ⟨hw, hsk⟩
      rotate_left
      · unfold wpOp
        simp only [ho, hw, Bool.false_eq_true, if_false]
        exact ih _ _ _ (by rw [ups_set hun2]; omega) (hinv.set hi hin) (inv.step hd hdn hdist hV ho hsk (Below.refl _ _))
      unfold wpOp
      simp only [ho, hw, if_true]
      refine .inl (Oper.wp_mono ?_ (hdo Q))
      rintro a' W' ⟨v, rfl, hv, hb⟩
      exact ih _ _ _ (by rw [ups_set hun2]; omega) (hinv.set hi hin) (inv.step hd hdn hdist hV ho hv hb)
theorem wp_region_each_tailB {id : Nat} {Q : Exit → Act → World → Prop} {w : World} {l : List Oper} (n : Nat) (V : Nat → Value → World → Prop) (hm : P.follows .mixedOrders = true) (hB : (decide (n < l.length) && eachBB .any l.toArray n a0.tmps.size && Region.sinkB .any l.toArray n && Region.chainB .any l.toArray n && Region.seqB .any l.toArray (l.length - n) n (LT l.length n)) = true) (hV : ∀ j v W W', V j v W → Below W.heap.size W W' → V j v W')
    (turns : AllTurns (fun i o => ∀ a W, EachPre .any l.toArray V w.drew a0 o a W → EachTurn P l.toArray V i o a W) (l.take n) 0)
    (fin : ∀ a W, Below w.drew.heap.size w.drew W → a.tmps.size = a0.tmps.size → a.defers = a0.defers → (∀ j d, j < n → dstOf l.toArray j = some d → V j (a.tmps.getD d undef) W) → (∀ t, (∀ j, dstOf l.toArray j ≠ some t) → a.tmps.getD t undef = a0.tmps.getD t undef) → wpList P l.toArray Q (l.drop n) a W) :
    (Code.region id l.toArray true).wp P Q a0 w := by
  simp only [Bool.and_eq_true, decide_eq_true_eq] at hB
  obtain ⟨⟨⟨⟨h1, h2⟩, h3⟩, h4⟩, h5⟩ := hB
  have hsz : l.toArray.size = l.length := by simp
  have inv0 : HeadInv .any l.toArray n (Array.replicate l.toArray.size false) :=
    ⟨by simp, fun j oj _ hl => (by rw [getD_replicate_false] at hl; cases hl), fun t _ ht => getD_in (by simpa using ht) (getD_replicate_false _ _)⟩
  have H := each_tailB (P := P) (md := .any) (Q := Q) (w0 := w.drew) (by rw [hsz]; exact h1) h2 h3 h4 hV (fun i o hin ho => by
    have := turns.at_ (i := i) (o := o) (by rw [List.getElem?_take]; simp [hin]; simpa using ho)
    rwa [Nat.zero_add] at this) (fun a W x1 x2 x3 x4 x5 => by
    have := wpAny_of_seq (P := P) (ops := l.toArray) (md := .any) (Q' := Q) (l.drop n) n (LT l.toArray.size n) a W (fun j => by simp [List.getElem?_drop]) (by rw [List.length_drop, hsz]; exact h5) (fin a W x1 x2 x3 x4 x5)
    rwa [List.length_drop, ← hsz] at this) n (Array.replicate l.toArray.size false) a0 w.drew (by simp [ups, List.count_replicate]) inv0 ⟨by simp, Below.refl _ _, rfl, rfl, fun j d _ hl => (by rw [getD_replicate_false] at hl; cases hl), fun _ _ => rfl⟩
  rw [show n + (l.toArray.size - n) = l.toArray.size by omega] at H
  exact wp_region_any hm H
end
end Go.Proofs.YtdeikpifflkabaaDoor

namespace Go.Proofs.YtdeikpifflkabaaDoor
open Go.RowKit
set_option linter.unusedVariables false
set_option linter.unusedSimpArgs false

section
variable {P : Program} {ops : Array Oper} {md : Region.Mode} {V : Nat → Value → World → Prop} {w0 : World} {a0 : Act}
/-- The tail waits for each of the first n but z. -/
def sinkZ (md : Region.Mode) (ops : Array Oper) (n z : Nat) : Bool :=
  (List.range n).all fun i => i == z || (List.range (n + 1)).any fun j => j != z && (decide (i < j) && Region.waitsFor md ops j i)
/-- All of the first n but z. -/
def LZ (m n z : Nat) : Array Bool := (Array.range m).map fun i => decide (i < n) && i != z
theorem listed_LZ {listed : Array Bool} {m n z : Nat} (hm : listed.size = m) (hh : ∀ i, i < n → i ≠ z → listed.getD i false = true) (hz : listed.getD z false = false) (ht : ∀ t, n ≤ t → t < m → listed.getD t true = false) : listed = LZ m n z := by
  apply Array.ext
  · simp [LZ, hm]
  · intro i h1 h2
    simp only [LZ, Array.getElem_map, Array.getElem_range]
    by_cases e : i = z
    · subst e
      simp [h1] at hz
      simp [hz]
    · rcases Nat.lt_or_ge i n with h | h
      · have := hh i h e
        simp [h1] at this
        rw [this]
        simp [h, e]
      · have := ht i h (by omega)
        simp [h1] at this
        rw [this]
        simp; omega
theorem tail_waitsZ {n z : Nat} {listed : Array Bool} (hs : sinkZ md ops n z = true) (hc : Region.chainB md ops n = true) (hn : n < ops.size) (inv : HeadInv md ops n listed) :
    ∀ (d i : Nat), n - i = d → i < n → i ≠ z → listed.getD i true = false → ∀ t, n ≤ t → t ∉ Region.ready md ops listed := by
  intro d
  induction d using Nat.strongRecOn with
  | _ d ih =>
    intro i hd hi hiz hun t ht hr
    obtain ⟨_, ot, hot, hall⟩ := mem_ready.1 hr
    have htlt : t < ops.size := (Array.getElem?_eq_some_iff.1 hot).1
    by_cases htn : t = n
    · subst htn
      have h1 := List.all_eq_true.1 hs i (List.mem_range.2 hi)
      rw [show (i == z) = false from beq_eq_false_iff_ne.2 hiz, Bool.false_or] at h1
      obtain ⟨j, hj, hj2⟩ := List.any_eq_true.1 h1
      simp only [Bool.and_eq_true, decide_eq_true_eq, bne_iff_ne] at hj2
      obtain ⟨oj, hoj, e, he, hb, hon⟩ := Region.waitsFor_spec hj2.2.2
      have hjle : j ≤ t := by have := List.mem_range.1 hj; omega
      by_cases hjt : j = t
      · subst hjt
        have : oj = ot := Option.some.inj (hoj.symm.trans hot)
        subst this
        have h2 := hall e he hb
        rw [hon, getD_both hun] at h2
        cases h2
      · cases hl : listed.getD j false with
        | true =>
          have h2 := inv.closed j oj hoj hl e he hb
          rw [hon, getD_both hun] at h2
          cases h2
        | false =>
          have hjs : j < listed.size := by rw [inv.size]; omega
          exact ih (t - j) (by omega) j rfl (by omega) hj2.1 (getD_in hjs hl) t (Nat.le_refl _) hr
    · have h1 := List.all_eq_true.1 hc t (List.mem_range.2 htlt)
      simp only [Bool.or_eq_true, decide_eq_true_eq] at h1
      rcases h1 with h1 | h1
      · omega
      · obtain ⟨o', ho', e, he, hb, hon⟩ := Region.waitsFor_spec h1
        have : o' = ot := Option.some.inj (ho'.symm.trans hot)
        subst this
        have h2 := hall e he hb
        rw [hon, getD_both (inv.tail (t - 1) (by omega) (by omega))] at h2
        cases h2
theorem each_lazy {Q : Exit → Act → World → Prop} {n z : Nat} (hn : n < ops.size) (hB : eachBB md ops n a0.tmps.size = true) (hz : z < n) (hs : sinkZ md ops n z = true) (hc : Region.chainB md ops n = true) (hV : ∀ j v W W', V j v W → Below W.heap.size W W' → V j v W')
    (step : ∀ i o, i < n → ops[i]? = some o → ∀ a W, EachPre md ops V w0 a0 o a W → EachTurn P ops V i o a W)
    (hns : Region.noSelect ops = true) (hfree : Region.free md ops (LZ ops.size n z) z = true) (hQ : ∀ c a d v w, Q (.panic c) (Act.put a d v) w → Q (.panic c) a w)
    (lazy : ∀ o, ops[z]? = some o → ∀ a W, EachPre md ops V w0 a0 o a W → ∃ v, Region.wanted o (yielded ops a.tmps) = true ∧ (∀ W', (execOp a.eval o).run P W' = .ok (.value v) W') ∧ V z v W)
    (fin : ∀ a W, Below w0.heap.size w0 W → a.tmps.size = a0.tmps.size → a.defers = a0.defers → (∀ j d, j < n → dstOf ops j = some d → V j (a.tmps.getD d undef) W) → (∀ t, (∀ j, dstOf ops j ≠ some t) → a.tmps.getD t undef = a0.tmps.getD t undef) → wpAny P md ops Q (ops.size - n) (LT ops.size n) a W) :
    ∀ (f : Nat) (listed : Array Bool) (a : Act) (W : World), ups listed + f = n → HeadInv md ops n listed → EachInv ops V w0 a0 listed a W → wpAny P md ops Q (f + (ops.size - n)) listed a W := by
  intro f
  induction f with
  | zero =>
    intro listed a W hu hinv inv
    have hall := (ups_head (by rw [hinv.size]; omega) (fun t h1 h2 => hinv.tail t h1 (by rw [hinv.size] at h2; exact h2))).1 (by omega)
    rw [listed_LT hinv.size hall hinv.tail, Nat.zero_add]
    exact fin a W inv.b inv.size inv.defers (fun j d hj hd => inv.val j d hd (hall j hj)) inv.old
  | succ f ih =>
    intro listed a W hu hinv inv
    have hnot : ¬ ∀ i, i < n → listed.getD i false = true := fun h => by
      have := (ups_head (by rw [hinv.size]; omega) (fun t h1 h2 => hinv.tail t h1 (by rw [hinv.size] at h2; exact h2))).2 h
      omega
    obtain ⟨i0, hi0, hun⟩ : ∃ i, i < n ∧ listed.getD i true = false := by
      apply Classical.byContradiction
      intro h
      apply hnot
      intro i hi
      cases hl : listed.getD i false with
      | true => rfl
      | false => exact absurd ⟨i, hi, getD_in (by rw [hinv.size]; omega) hl⟩ h
    rw [show f + 1 + (ops.size - n) = (f + (ops.size - n)) + 1 by omega]
    by_cases hbut : ∀ i, i < n → i ≠ z → listed.getD i false = true
    · -- all but z
      have hzf : listed.getD z false = false := by
        cases hl : listed.getD z false with
        | false => rfl
        | true =>
          exfalso
          apply hnot
          intro i hi
          by_cases e : i = z
          · rw [e]; exact hl
          · exact hbut i hi e
      have hzt : listed.getD z true = false := getD_in (by rw [hinv.size]; omega) hzf
      have hLZ : listed = LZ ops.size n z := listed_LZ hinv.size hbut hzf hinv.tail
      have hzo : ops[z]? = some ops[z] := Array.getElem?_eq_getElem (by omega)
      obtain ⟨d, hd, hdn, hdist, haf⟩ := eachBB_at hB hz hzo
      have hrd : z ∈ Region.ready md ops listed := mem_ready.2 ⟨hzt, _, hzo, fun e he hb => hbut e.on (by have := haf e he hb; omega) (by have := haf e he hb; omega)⟩
      obtain ⟨v, hw, hrun, hv⟩ := lazy _ hzo a W ⟨inv.b, inv.size, fun j dj hj hwait => inv.val j dj hj (by
        obtain ⟨e, he, hb⟩ := Array.any_eq_true'.1 hwait
        simp only [Bool.and_eq_true, beq_iff_eq] at hb
        rw [← hb.2]
        have := haf e he hb.1
        exact hbut e.on (by omega) (by omega)), inv.old⟩
      refine wpAny_take hzo hns (hLZ ▸ hfree) (by simpa using hrd) (fun c a w => hQ c a _ _ w) (.inl ⟨hw, hrun⟩) ?_
      exact ih _ _ _ (by rw [ups_set hzt]; omega) (hinv.set hrd hz) (inv.step hd hdn hdist hV hzo hv (Below.refl _ _))
    obtain ⟨i1, hi1, hi1z, hun1⟩ : ∃ i, i < n ∧ i ≠ z ∧ listed.getD i true = false := by
      apply Classical.byContradiction
      intro h
      apply hbut
      intro i hi hne
      cases hl : listed.getD i false with
      | true => rfl
      | false => exact absurd ⟨i, hi, hne, getD_in (by rw [hinv.size]; omega) hl⟩ h
    refine ⟨fun hr => ?_, fun i hi => ?_⟩
    · exfalso
      apply hnot
      intro i
      induction i using Nat.strongRecOn with
      | _ i ihh =>
        intro hin
        cases hl : listed.getD i false with
        | true => rfl
        | false =>
          exfalso
          have hio : ops[i]? = some ops[i] := Array.getElem?_eq_getElem (by omega)
          obtain ⟨d, hd, _, _, haf⟩ := eachBB_at hB hin hio
          have : i ∈ Region.ready md ops listed := mem_ready.2 ⟨getD_in (by rw [hinv.size]; omega) hl, _, hio, fun e he hb => ihh e.on (haf e he hb) (by have := haf e he hb; omega)⟩
          rw [hr] at this
          cases this
    · obtain ⟨hun2, o, ho, hall⟩ := mem_ready.1 hi
      have hin : i < n := by
        rcases Nat.lt_or_ge i n with h | h
        · exact h
        · exact absurd hi (tail_waitsZ hs hc hn hinv _ i1 rfl hi1 hi1z hun1 i h)
      obtain ⟨d, hd, hdn, hdist, _⟩ := eachBB_at hB hin ho
      rcases step i o hin ho a W ⟨inv.b, inv.size, fun j dj hj hwait => inv.val j dj hj (by
        obtain ⟨e, he, hb⟩ := Array.any_eq_true'.1 hwait
        simp only [Bool.and_eq_true, beq_iff_eq] at hb
        rw [← hb.2]
        exact hall e he hb.1), inv.old⟩ with ⟨hw, hdo⟩ | ⟨hw, hsk⟩
      rotate_left
      · unfold wpOp
        simp only [ho, hw, Bool.false_eq_true, if_false]
        exact ih _ _ _ (by rw [ups_set hun2]; omega) (hinv.set hi hin) (inv.step hd hdn hdist hV ho hsk (Below.refl _ _))
      unfold wpOp
      simp only [ho, hw, if_true]
      refine .inl (Oper.wp_mono ?_ (hdo Q))
      rintro a' W' ⟨v, rfl, hv, hb⟩
      exact ih _ _ _ (by rw [ups_set hun2]; omega) (hinv.set hi hin) (inv.step hd hdn hdist hV ho hv hb)
theorem wp_region_each_lazy {id : Nat} {Q : Exit → Act → World → Prop} {w : World} {l : List Oper} (n z : Nat) (V : Nat → Value → World → Prop) (hm : P.follows .mixedOrders = true) (hB : (decide (n < l.length) && eachBB .any l.toArray n a0.tmps.size && decide (z < n) && sinkZ .any l.toArray n z && Region.noSelect l.toArray && Region.free .any l.toArray (LZ l.length n z) z && Region.chainB .any l.toArray n && Region.seqB .any l.toArray (l.length - n) n (LT l.length n)) = true) (hV : ∀ j v W W', V j v W → Below W.heap.size W W' → V j v W')
    (turns : AllTurns (fun i o => ∀ a W, EachPre .any l.toArray V w.drew a0 o a W → EachTurn P l.toArray V i o a W) (l.take n) 0)
    (hQ : ∀ c a d v w, Q (.panic c) (Act.put a d v) w → Q (.panic c) a w)
    (lazy : ∀ o, l.toArray[z]? = some o → ∀ a W, EachPre .any l.toArray V w.drew a0 o a W → ∃ v, Region.wanted o (yielded l.toArray a.tmps) = true ∧ (∀ W', (execOp a.eval o).run P W' = .ok (.value v) W') ∧ V z v W)
    (fin : ∀ a W, Below w.drew.heap.size w.drew W → a.tmps.size = a0.tmps.size → a.defers = a0.defers → (∀ j d, j < n → dstOf l.toArray j = some d → V j (a.tmps.getD d undef) W) → (∀ t, (∀ j, dstOf l.toArray j ≠ some t) → a.tmps.getD t undef = a0.tmps.getD t undef) → wpList P l.toArray Q (l.drop n) a W) :
    (Code.region id l.toArray true).wp P Q a0 w := by
  simp only [Bool.and_eq_true, decide_eq_true_eq] at hB
  obtain ⟨⟨⟨⟨⟨⟨⟨h1, h2⟩, h6⟩, h3⟩, h7⟩, h8⟩, h4⟩, h5⟩ := hB
  have hsz : l.toArray.size = l.length := by simp
  have inv0 : HeadInv .any l.toArray n (Array.replicate l.toArray.size false) :=
    ⟨by simp, fun j oj _ hl => (by rw [getD_replicate_false] at hl; cases hl), fun t _ ht => getD_in (by simpa using ht) (getD_replicate_false _ _)⟩
  have H := each_lazy (P := P) (md := .any) (Q := Q) (w0 := w.drew) (by rw [hsz]; exact h1) h2 h6 h3 h4 hV (fun i o hin ho => by
    have := turns.at_ (i := i) (o := o) (by rw [List.getElem?_take]; simp [hin]; simpa using ho)
    rwa [Nat.zero_add] at this) h7 (by rw [hsz]; exact h8) hQ lazy (fun a W x1 x2 x3 x4 x5 => by
    have := wpAny_of_seq (P := P) (ops := l.toArray) (md := .any) (Q' := Q) (l.drop n) n (LT l.toArray.size n) a W (fun j => by simp [List.getElem?_drop]) (by rw [List.length_drop, hsz]; exact h5) (fin a W x1 x2 x3 x4 x5)
    rwa [List.length_drop, ← hsz] at this) n (Array.replicate l.toArray.size false) a0 w.drew (by simp [ups, List.count_replicate]) inv0 ⟨by simp, Below.refl _ _, rfl, rfl, fun j d _ hl => (by rw [getD_replicate_false] at hl; cases hl), fun _ _ => rfl⟩
  rw [show n + (l.toArray.size - n) = l.toArray.size by omega] at H
  exact wp_region_any hm H
end
end Go.Proofs.YtdeikpifflkabaaDoor
