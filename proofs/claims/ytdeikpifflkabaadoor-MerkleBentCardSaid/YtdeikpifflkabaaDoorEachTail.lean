/- What this text proves: a law for a region that leaves its order open, makes memory, and ends with a chain of operations that wait for all others: each of the others is judged once, in whatever world its turn comes; then the chain is gone through in the order of the text. The conditions are checked by the kernel, or the law's own premises. the law of EachTail for regions with edges that do not bind when an order is drawn. The conditions are checked by the kernel, or the law's own premises. the law of EachBind where one operation that only reckons need not be ahead of the tail. The conditions are checked by the kernel, or the law's own premises. a law for a region that leaves its order open and makes memory: some operations (heads) are judged once each, in whatever world their turn comes; among them such as only reckon (lazies) may come late; the others (the tail) come behind, in a fixed order. The conditions are checked by the kernel, or the law's own premises. -/
import Derived.Test.YtdeikpifflkabaaDoorEach
import Derived.OrdersIn
import Derived.TacticsIn
namespace Go.Proofs.YtdeikpifflkabaaDoor
open Go.RowKit
set_option linter.unusedVariables false
set_option linter.unusedSimpArgs false

section
variable {P : Program} {ops : Array Oper} {md : Region.Mode} {V : Nat → Value → World → Prop} {w0 : World} {a0 : Act}
/-- What the kernel checks of the first n operations. -/
def eachTB (ops : Array Oper) (n m : Nat) : Bool :=
  (List.range n).all fun i => match ops[i]? with
    | some o => (match o.dst with
        | some d => decide (d < m) && (List.range ops.size).all fun j => j == i || dstOf ops j != some d
        | none => false) && o.after.all fun e => decide (e.on < i)
    | none => false
theorem eachTB_at {n m i : Nat} {o : Oper} (h : eachTB ops n m = true) (hin : i < n) (hi : ops[i]? = some o) : ∃ d, o.dst = some d ∧ d < m ∧ (∀ j, j ≠ i → dstOf ops j ≠ some d) ∧ ∀ e ∈ o.after, e.on < i := by
  have h1 := List.all_eq_true.1 h i (List.mem_range.2 hin)
  simp only [hi, Bool.and_eq_true] at h1
  obtain ⟨h2, h3⟩ := h1
  cases hd : o.dst with
  | none => rw [hd] at h2; cases h2
  | some d =>
    rw [hd] at h2
    simp only [Bool.and_eq_true, decide_eq_true_eq] at h2
    refine ⟨d, rfl, h2.1, fun j hj hjd => ?_, fun e he => by simpa using (Array.all_eq_true'.1 h3) e he⟩
    have hjl : j < ops.size := by
      unfold dstOf at hjd
      rcases Nat.lt_or_ge j ops.size with h | h
      · exact h
      · rw [Array.getElem?_eq_none h] at hjd; cases hjd
    have := List.all_eq_true.1 h2.2 j (List.mem_range.2 hjl)
    simp only [Bool.or_eq_true, beq_iff_eq, bne_iff_ne] at this
    rcases this with h | h
    · exact hj h
    · exact h hjd
theorem EachInv.step {i d : Nat} {o : Oper} {listed : Array Bool} {a : Act} {W W' : World} {v : Value} (hd : o.dst = some d) (hdn : d < a0.tmps.size) (hdist : ∀ j, j ≠ i → dstOf ops j ≠ some d) (hV : ∀ j v W W', V j v W → Below W.heap.size W W' → V j v W')
    (inv : EachInv ops V w0 a0 listed a W) (hi : ops[i]? = some o) (hv : V i v W') (hb : Below W.heap.size W W') : EachInv ops V w0 a0 (listed.setIfInBounds i true) (a.put o.dst v) W' := by
  rw [hd]
  refine ⟨by simp [inv.lsz], inv.b.trans (hb.mono inv.b.size), by simp [Act.put, inv.size], inv.defers, fun j dj hj hl => ?_, fun t ht => ?_⟩
  · by_cases e : j = i
    · subst e
      have : dj = d := by unfold dstOf at hj; rw [hi] at hj; simpa [hd] using hj.symm
      subst this
      rw [put_self (by rw [inv.size]; exact hdn)]
      exact hv
    · have hne : d ≠ dj := fun e' => hdist j e (by rw [e']; exact hj)
      rw [put_far hne]
      rw [getD_set_ne false (Ne.symm e)] at hl
      exact hV _ _ _ _ (inv.val j dj hj hl) hb
  · have hne : d ≠ t := fun e' => ht i (by unfold dstOf; rw [hi]; simp [hd, e'])
    rw [put_far hne]
    exact inv.old t ht
/-- The first n are listed. -/
def LT (m n : Nat) : Array Bool := (Array.range m).map fun i => decide (i < n)
theorem ups_split (listed : Array Bool) (n : Nat) : ups listed = (listed.toList.take n).count true + (listed.toList.drop n).count true := by
  unfold ups
  conv => lhs; rw [← List.take_append_drop n listed.toList]
  exact List.count_append
theorem ups_tail {listed : Array Bool} {n : Nat} (ht : ∀ t, n ≤ t → t < listed.size → listed.getD t true = false) : (listed.toList.drop n).count true = 0 := by
  rw [List.count_eq_zero]
  intro hm
  obtain ⟨k, hk, he⟩ := List.getElem_of_mem hm
  rw [List.getElem_drop] at he
  have hlt : n + k < listed.size := by simp at hk; omega
  have := ht (n + k) (by omega) hlt
  simp [hlt] at this
  simp at he
  rw [he] at this
  cases this
theorem ups_head {listed : Array Bool} {n : Nat} (hn : n ≤ listed.size) (ht : ∀ t, n ≤ t → t < listed.size → listed.getD t true = false) : ups listed = n ↔ ∀ i, i < n → listed.getD i false = true := by
  have hl : (listed.toList.take n).length = n := by simp; omega
  rw [ups_split listed n, ups_tail ht, Nat.add_zero]
  constructor
  · intro h i hi
    have hc := List.count_eq_length.1 (by rw [hl]; exact h : (listed.toList.take n).count true = (listed.toList.take n).length)
    have := hc ((listed.toList.take n)[i]'(by rw [hl]; exact hi)) (List.getElem_mem _)
    rw [List.getElem_take] at this
    have hlt : i < listed.size := by omega
    simp [hlt]
    simpa using this.symm
  · intro h
    have hc : (listed.toList.take n).count true = (listed.toList.take n).length := by
      refine List.count_eq_length.2 fun b hb => ?_
      obtain ⟨k, hk, he⟩ := List.getElem_of_mem hb
      rw [List.getElem_take] at he
      have hkn : k < n := by rw [hl] at hk; exact hk
      have hlt : k < listed.size := by omega
      have := h k hkn
      simp [hlt] at this
      simp at he
      rw [← he, this]
    rw [hc, hl]
theorem listed_LT {listed : Array Bool} {m n : Nat} (hm : listed.size = m) (hh : ∀ i, i < n → listed.getD i false = true) (ht : ∀ t, n ≤ t → t < m → listed.getD t true = false) : listed = LT m n := by
  apply Array.ext
  · simp [LT, hm]
  · intro i h1 h2
    simp only [LT, Array.getElem_map, Array.getElem_range]
    rcases Nat.lt_or_ge i n with h | h
    · have := hh i h
      simp [h1] at this
      rw [this, decide_eq_true h]
    · have := ht i h (by omega)
      simp [h1] at this
      rw [this, decide_eq_false (by omega)]
/-- An operation's turn, or that it is passed over (then it yields what is not laid down). -/
def EachTurn (P : Program) (ops : Array Oper) (V : Nat → Value → World → Prop) (i : Nat) (o : Oper) (a : Act) (W : World) : Prop :=
  EachDoes P ops V i o a W ∨ (Region.wanted o (yielded ops a.tmps) = false ∧ V i undef W)
theorem each_tail {Q : Exit → Act → World → Prop} {n : Nat} (hn : n < ops.size) (hB : eachTB ops n a0.tmps.size = true) (hs : Region.sinkB md ops n = true) (hc : Region.chainB md ops n = true) (hV : ∀ j v W W', V j v W → Below W.heap.size W W' → V j v W')
    (step : ∀ i o, i < n → ops[i]? = some o → ∀ a W, EachPre md ops V w0 a0 o a W → EachTurn P ops V i o a W)
    (fin : ∀ a W, Below w0.heap.size w0 W → a.tmps.size = a0.tmps.size → a.defers = a0.defers → (∀ j d, j < n → dstOf ops j = some d → V j (a.tmps.getD d undef) W) → (∀ t, (∀ j, dstOf ops j ≠ some t) → a.tmps.getD t undef = a0.tmps.getD t undef) → wpAny P md ops Q (ops.size - n) (LT ops.size n) a W) :
    ∀ (f : Nat) (listed : Array Bool) (a : Act) (W : World), ups listed + f = n → HeadInv md ops n listed → EachInv ops V w0 a0 listed a W → wpAny P md ops Q (f + (ops.size - n)) listed a W := by
  intro f
  induction f with
  | zero =>
    intro listed a W hu hinv inv
    have hall := (ups_head (by rw [hinv.size]; omega) (fun t h1 h2 => hinv.tail t h1 (by rw [hinv.size] at h2; exact h2))).1 (by omega)
    rw [listed_LT hinv.size hall hinv.tail, Nat.zero_add]
    exact fin a W inv.b inv.size inv.defers (fun j d hj hd => inv.val j d hd (hall j hj)) inv.old
  | succ f ih =>
    intro listed a W hu hinv inv
    have hnot : ¬ ∀ i, i < n → listed.getD i false = true := fun h => by
      have := (ups_head (by rw [hinv.size]; omega) (fun t h1 h2 => hinv.tail t h1 (by rw [hinv.size] at h2; exact h2))).2 h
      omega
    obtain ⟨i0, hi0, hun⟩ : ∃ i, i < n ∧ listed.getD i true = false := by
      apply Classical.byContradiction
      intro h
      apply hnot
      intro i hi
      cases hl : listed.getD i false with
      | true => rfl
      | false => exact absurd ⟨i, hi, getD_in (by rw [hinv.size]; omega) hl⟩ h
    rw [show f + 1 + (ops.size - n) = (f + (ops.size - n)) + 1 by omega]
    refine ⟨fun hr => ?_, fun i hi => ?_⟩
    · exfalso
      apply hnot
      intro i
      induction i using Nat.strongRecOn with
      | _ i ihh =>
        intro hin
        cases hl : listed.getD i false with
        | true => rfl
        | false =>
          exfalso
          have hio : ops[i]? = some ops[i] := Array.getElem?_eq_getElem (by omega)
          obtain ⟨d, hd, _, _, haf⟩ := eachTB_at hB hin hio
          have : i ∈ Region.ready md ops listed := mem_ready.2 ⟨getD_in (by rw [hinv.size]; omega) hl, _, hio, fun e he hb => ihh e.on (haf e he) (by have := haf e he; omega)⟩
          rw [hr] at this
          cases this
    · obtain ⟨hun2, o, ho, hall⟩ := mem_ready.1 hi
      have hin : i < n := by
        rcases Nat.lt_or_ge i n with h | h
        · exact h
        · exact absurd hi (tail_waits hs hc hn hinv _ i0 rfl hi0 hun i h)
      obtain ⟨d, hd, hdn, hdist, _⟩ := eachTB_at hB hin ho
      rcases step i o hin ho a W ⟨inv.b, inv.size, fun j dj hj hwait => inv.val j dj hj (by
        obtain ⟨e, he, hb⟩ := Array.any_eq_true'.1 hwait
        simp only [Bool.and_eq_true, beq_iff_eq] at hb
        rw [← hb.2]
        exact hall e he hb.1), inv.old⟩ with ⟨hw, hdo⟩ | ⟨hw, hsk⟩
      rotate_left
      · unfold wpOp
        simp only [ho, hw, Bool.false_eq_true, if_false]
        exact ih _ _ _ (by rw [ups_set hun2]; omega) (hinv.set hi hin) (inv.step hd hdn hdist hV ho hsk (Below.refl _ _))
      unfold wpOp
      simp only [ho, hw, if_true]
      refine .inl (Oper.wp_mono ?_ (hdo Q))
      rintro a' W' ⟨v, rfl, hv, hb⟩
      exact ih _ _ _ (by rw [ups_set hun2]; omega) (hinv.set hi hin) (inv.step hd hdn hdist hV ho hv hb)
theorem wp_region_each_tail {id : Nat} {Q : Exit → Act → World → Prop} {w : World} {l : List Oper} (n : Nat) (V : Nat → Value → World → Prop) (hm : P.follows .mixedOrders = true) (hB : (decide (n < l.length) && eachTB l.toArray n a0.tmps.size && Region.sinkB .any l.toArray n && Region.chainB .any l.toArray n && Region.seqB .any l.toArray (l.length - n) n (LT l.length n)) = true) (hV : ∀ j v W W', V j v W → Below W.heap.size W W' → V j v W')
    (turns : AllTurns (fun i o => ∀ a W, EachPre .any l.toArray V w.drew a0 o a W → EachTurn P l.toArray V i o a W) (l.take n) 0)
    (fin : ∀ a W, Below w.drew.heap.size w.drew W → a.tmps.size = a0.tmps.size → a.defers = a0.defers → (∀ j d, j < n → dstOf l.toArray j = some d → V j (a.tmps.getD d undef) W) → (∀ t, (∀ j, dstOf l.toArray j ≠ some t) → a.tmps.getD t undef = a0.tmps.getD t undef) → wpList P l.toArray Q (l.drop n) a W) :
    (Code.region id l.toArray true).wp P Q a0 w := by
  simp only [Bool.and_eq_true, decide_eq_true_eq] at hB
  obtain ⟨⟨⟨⟨h1, h2⟩, h3⟩, h4⟩, h5⟩ := hB
  have hsz : l.toArray.size = l.length := by simp
  have inv0 : HeadInv .any l.toArray n (Array.replicate l.toArray.size false) :=
    ⟨by simp, fun j oj _ hl => (by rw [getD_replicate_false] at hl; cases hl), fun t _ ht => getD_in (by simpa using ht) (getD_replicate_false _ _)⟩
  have H := each_tail (P := P) (md := .any) (Q := Q) (w0 := w.drew) (by rw [hsz]; exact h1) h2 h3 h4 hV (fun i o hin ho => by
    have := turns.at_ (i := i) (o := o) (by rw [List.getElem?_take]; simp [hin]; simpa using ho)
    rwa [Nat.zero_add] at this) (fun a W x1 x2 x3 x4 x5 => by
    have := wpAny_of_seq (P := P) (ops := l.toArray) (md := .any) (Q' := Q) (l.drop n) n (LT l.toArray.size n) a W (fun j => by simp [List.getElem?_drop]) (by rw [List.length_drop, hsz]; exact h5) (fin a W x1 x2 x3 x4 x5)
    rwa [List.length_drop, ← hsz] at this) n (Array.replicate l.toArray.size false) a0 w.drew (by simp [ups, List.count_replicate]) inv0 ⟨by simp, Below.refl _ _, rfl, rfl, fun j d _ hl => (by rw [getD_replicate_false] at hl; cases hl), fun _ _ => rfl⟩
  rw [show n + (l.toArray.size - n) = l.toArray.size by omega] at H
  exact wp_region_any hm H
theorem skip_bool {o : Oper} {a : Act} {g dg : Nat} {b : Bool} (h : o.guard = some (g, b)) (hd : dstOf ops g = some dg) (hs : dg < a.tmps.size) (hv : a.tmps.getD dg undef = .bool (!b)) : Region.wanted o (yielded ops a.tmps) = false := by
  have hv' : a.tmps[dg]? = some (.bool (!b)) := by
    rw [Array.getElem?_eq_getElem hs]
    simp [hs] at hv
    rw [hv]
  have hy : yielded ops a.tmps g = some (!b) := by
    unfold yielded
    unfold dstOf at hd
    rw [hd]
    simp [hv']
  cases b <;> simp [Region.wanted, h, hy]
theorem skip_undef {o : Oper} {a : Act} {g dg : Nat} {b : Bool} (h : o.guard = some (g, b)) (hd : dstOf ops g = some dg) (hs : dg < a.tmps.size) (hv : a.tmps.getD dg undef = undef) : Region.wanted o (yielded ops a.tmps) = false := by
  have hv' : a.tmps[dg]? = some undef := by
    rw [Array.getElem?_eq_getElem hs]
    simp [hs] at hv
    rw [hv]
  have hy : yielded ops a.tmps g = none := by
    unfold yielded
    unfold dstOf at hd
    rw [hd]
    simp [hv', undef]
  simp [Region.wanted, h, hy]
/-- What each operation yields, as a list. -/
def lstV (l : List (Value → World → Prop)) (j : Nat) (v : Value) (W : World) : Prop := match l[j]? with
  | some p => p v W
  | none => True
def Remains (p : Value → World → Prop) : Prop := ∀ v W W', p v W → Below W.heap.size W W' → p v W'
theorem stays_eq (p : Value → Prop) : Remains fun v _ => p v := fun _ _ _ h _ => h
theorem lstV_on {l : List (Value → World → Prop)} (h : ∀ p ∈ l, Remains p) : ∀ (j : Nat) (v : Value) (W W' : World), lstV l j v W → Below W.heap.size W W' → lstV l j v W' := by
  intro j v W W' hv hb
  unfold lstV at hv ⊢
  cases hj : l[j]? with
  | none => trivial
  | some p => rw [hj] at hv; exact h p (List.mem_of_getElem? hj) _ _ _ hv hb
end
end Go.Proofs.YtdeikpifflkabaaDoor

namespace Go.Proofs.YtdeikpifflkabaaDoor
open Go.RowKit
set_option linter.unusedVariables false
set_option linter.unusedSimpArgs false

section
variable {P : Program} {ops : Array Oper} {md : Region.Mode} {V : Nat → Value → World → Prop} {w0 : World} {a0 : Act}
/-- What the kernel checks of the first n operations. -/
def eachBB (md : Region.Mode) (ops : Array Oper) (n m : Nat) : Bool :=
  (List.range n).all fun i => match ops[i]? with
    | some o => (match o.dst with
        | some d => decide (d < m) && (List.range ops.size).all fun j => j == i || dstOf ops j != some d
        | none => false) && o.after.all fun e => !Region.binds md e || decide (e.on < i)
    | none => false
theorem eachBB_at {n m i : Nat} {o : Oper} (h : eachBB md ops n m = true) (hin : i < n) (hi : ops[i]? = some o) : ∃ d, o.dst = some d ∧ d < m ∧ (∀ j, j ≠ i → dstOf ops j ≠ some d) ∧ ∀ e ∈ o.after, Region.binds md e = true → e.on < i := by
  have h1 := List.all_eq_true.1 h i (List.mem_range.2 hin)
  simp only [hi, Bool.and_eq_true] at h1
  obtain ⟨h2, h3⟩ := h1
  cases hd : o.dst with
  | none => rw [hd] at h2; cases h2
  | some d =>
    rw [hd] at h2
    simp only [Bool.and_eq_true, decide_eq_true_eq] at h2
    refine ⟨d, rfl, h2.1, fun j hj hjd => ?_, fun e he hb => by have := (Array.all_eq_true'.1 h3) e he; simpa [hb] using this⟩
    have hjl : j < ops.size := by
      unfold dstOf at hjd
      rcases Nat.lt_or_ge j ops.size with h | h
      · exact h
      · rw [Array.getElem?_eq_none h] at hjd; cases hjd
    have := List.all_eq_true.1 h2.2 j (List.mem_range.2 hjl)
    simp only [Bool.or_eq_true, beq_iff_eq, bne_iff_ne] at this
    rcases this with h | h
    · exact hj h
    · exact h hjd
theorem each_tailB {Q : Exit → Act → World → Prop} {n : Nat} (hn : n < ops.size) (hB : eachBB md ops n a0.tmps.size = true) (hs : Region.sinkB md ops n = true) (hc : Region.chainB md ops n = true) (hV : ∀ j v W W', V j v W → Below W.heap.size W W' → V j v W')
    (step : ∀ i o, i < n → ops[i]? = some o → ∀ a W, EachPre md ops V w0 a0 o a W → EachTurn P ops V i o a W)
    (fin : ∀ a W, Below w0.heap.size w0 W → a.tmps.size = a0.tmps.size → a.defers = a0.defers → (∀ j d, j < n → dstOf ops j = some d → V j (a.tmps.getD d undef) W) → (∀ t, (∀ j, dstOf ops j ≠ some t) → a.tmps.getD t undef = a0.tmps.getD t undef) → wpAny P md ops Q (ops.size - n) (LT ops.size n) a W) :
    ∀ (f : Nat) (listed : Array Bool) (a : Act) (W : World), ups listed + f = n → HeadInv md ops n listed → EachInv ops V w0 a0 listed a W → wpAny P md ops Q (f + (ops.size - n)) listed a W := by
  intro f
  induction f with
  | zero =>
    intro listed a W hu hinv inv
    have hall := (ups_head (by rw [hinv.size]; omega) (fun t h1 h2 => hinv.tail t h1 (by rw [hinv.size] at h2; exact h2))).1 (by omega)
    rw [listed_LT hinv.size hall hinv.tail, Nat.zero_add]
    exact fin a W inv.b inv.size inv.defers (fun j d hj hd => inv.val j d hd (hall j hj)) inv.old
  | succ f ih =>
    intro listed a W hu hinv inv
    have hnot : ¬ ∀ i, i < n → listed.getD i false = true := fun h => by
      have := (ups_head (by rw [hinv.size]; omega) (fun t h1 h2 => hinv.tail t h1 (by rw [hinv.size] at h2; exact h2))).2 h
      omega
    obtain ⟨i0, hi0, hun⟩ : ∃ i, i < n ∧ listed.getD i true = false := by
      apply Classical.byContradiction
      intro h
      apply hnot
      intro i hi
      cases hl : listed.getD i false with
      | true => rfl
      | false => exact absurd ⟨i, hi, getD_in (by rw [hinv.size]; omega) hl⟩ h
    rw [show f + 1 + (ops.size - n) = (f + (ops.size - n)) + 1 by omega]
    refine ⟨fun hr => ?_, fun i hi => ?_⟩
    · exfalso
      apply hnot
      intro i
      induction i using Nat.strongRecOn with
      | _ i ihh =>
        intro hin
        cases hl : listed.getD i false with
        | true => rfl
        | false =>
          exfalso
          have hio : ops[i]? = some ops[i] := Array.getElem?_eq_getElem (by omega)
          obtain ⟨d, hd, _, _, haf⟩ := eachBB_at hB hin hio
          have : i ∈ Region.ready md ops listed := mem_ready.2 ⟨getD_in (by rw [hinv.size]; omega) hl, _, hio, fun e he hb => ihh e.on (haf e he hb) (by have := haf e he hb; omega)⟩
          rw [hr] at this
          cases this
    · obtain ⟨hun2, o, ho, hall⟩ := mem_ready.1 hi
      have hin : i < n := by
        rcases Nat.lt_or_ge i n with h | h
        · exact h
        · exact absurd hi (tail_waits hs hc hn hinv _ i0 rfl hi0 hun i h)
      obtain ⟨d, hd, hdn, hdist, _⟩ := eachBB_at hB hin ho
      rcases step i o hin ho a W ⟨inv.b, inv.size, fun j dj hj hwait => inv.val j dj hj (by
        obtain ⟨e, he, hb⟩ := Array.any_eq_true'.1 hwait
        simp only [Bool.and_eq_true, beq_iff_eq] at hb
        rw [← hb.2]
        exact hall e he hb.1), inv.old⟩ with ⟨hw, hdo⟩ | ⟨hw, hsk⟩
      rotate_left
      · unfold wpOp
        simp only [ho, hw, Bool.false_eq_true, if_false]
        exact ih _ _ _ (by rw [ups_set hun2]; omega) (hinv.set hi hin) (inv.step hd hdn hdist hV ho hsk (Below.refl _ _))
      unfold wpOp
      simp only [ho, hw, if_true]
      refine .inl (Oper.wp_mono ?_ (hdo Q))
      rintro a' W' ⟨v, rfl, hv, hb⟩
      exact ih _ _ _ (by rw [ups_set hun2]; omega) (hinv.set hi hin) (inv.step hd hdn hdist hV ho hv hb)
theorem wp_region_each_tailB {id : Nat} {Q : Exit → Act → World → Prop} {w : World} {l : List Oper} (n : Nat) (V : Nat → Value → World → Prop) (hm : P.follows .mixedOrders = true) (hB : (decide (n < l.length) && eachBB .any l.toArray n a0.tmps.size && Region.sinkB .any l.toArray n && Region.chainB .any l.toArray n && Region.seqB .any l.toArray (l.length - n) n (LT l.length n)) = true) (hV : ∀ j v W W', V j v W → Below W.heap.size W W' → V j v W')
    (turns : AllTurns (fun i o => ∀ a W, EachPre .any l.toArray V w.drew a0 o a W → EachTurn P l.toArray V i o a W) (l.take n) 0)
    (fin : ∀ a W, Below w.drew.heap.size w.drew W → a.tmps.size = a0.tmps.size → a.defers = a0.defers → (∀ j d, j < n → dstOf l.toArray j = some d → V j (a.tmps.getD d undef) W) → (∀ t, (∀ j, dstOf l.toArray j ≠ some t) → a.tmps.getD t undef = a0.tmps.getD t undef) → wpList P l.toArray Q (l.drop n) a W) :
    (Code.region id l.toArray true).wp P Q a0 w := by
  simp only [Bool.and_eq_true, decide_eq_true_eq] at hB
  obtain ⟨⟨⟨⟨h1, h2⟩, h3⟩, h4⟩, h5⟩ := hB
  have hsz : l.toArray.size = l.length := by simp
  have inv0 : HeadInv .any l.toArray n (Array.replicate l.toArray.size false) :=
    ⟨by simp, fun j oj _ hl => (by rw [getD_replicate_false] at hl; cases hl), fun t _ ht => getD_in (by simpa using ht) (getD_replicate_false _ _)⟩
  have H := each_tailB (P := P) (md := .any) (Q := Q) (w0 := w.drew) (by rw [hsz]; exact h1) h2 h3 h4 hV (fun i o hin ho => by
    have := turns.at_ (i := i) (o := o) (by rw [List.getElem?_take]; simp [hin]; simpa using ho)
    rwa [Nat.zero_add] at this) (fun a W x1 x2 x3 x4 x5 => by
    have := wpAny_of_seq (P := P) (ops := l.toArray) (md := .any) (Q' := Q) (l.drop n) n (LT l.toArray.size n) a W (fun j => by simp [List.getElem?_drop]) (by rw [List.length_drop, hsz]; exact h5) (fin a W x1 x2 x3 x4 x5)
    rwa [List.length_drop, ← hsz] at this) n (Array.replicate l.toArray.size false) a0 w.drew (by simp [ups, List.count_replicate]) inv0 ⟨by simp, Below.refl _ _, rfl, rfl, fun j d _ hl => (by rw [getD_replicate_false] at hl; cases hl), fun _ _ => rfl⟩
  rw [show n + (l.toArray.size - n) = l.toArray.size by omega] at H
  exact wp_region_any hm H
end
end Go.Proofs.YtdeikpifflkabaaDoor

namespace Go.Proofs.YtdeikpifflkabaaDoor
open Go.RowKit
set_option linter.unusedVariables false
set_option linter.unusedSimpArgs false

section
variable {P : Program} {ops : Array Oper} {md : Region.Mode} {V : Nat → Value → World → Prop} {w0 : World} {a0 : Act}
/-- The tail waits for each of the first n but z. -/
def sinkZ (md : Region.Mode) (ops : Array Oper) (n z : Nat) : Bool :=
  (List.range n).all fun i => i == z || (List.range (n + 1)).any fun j => j != z && (decide (i < j) && Region.waitsFor md ops j i)
/-- All of the first n but z. -/
def LZ (m n z : Nat) : Array Bool := (Array.range m).map fun i => decide (i < n) && i != z
theorem listed_LZ {listed : Array Bool} {m n z : Nat} (hm : listed.size = m) (hh : ∀ i, i < n → i ≠ z → listed.getD i false = true) (hz : listed.getD z false = false) (ht : ∀ t, n ≤ t → t < m → listed.getD t true = false) : listed = LZ m n z := by
  apply Array.ext
  · simp [LZ, hm]
  · intro i h1 h2
    simp only [LZ, Array.getElem_map, Array.getElem_range]
    by_cases e : i = z
    · subst e
      simp [h1] at hz
      simp [hz]
    · rcases Nat.lt_or_ge i n with h | h
      · have := hh i h e
        simp [h1] at this
        rw [this]
        simp [h, e]
      · have := ht i h (by omega)
        simp [h1] at this
        rw [this]
        simp; omega
theorem tail_waitsZ {n z : Nat} {listed : Array Bool} (hs : sinkZ md ops n z = true) (hc : Region.chainB md ops n = true) (hn : n < ops.size) (inv : HeadInv md ops n listed) :
    ∀ (d i : Nat), n - i = d → i < n → i ≠ z → listed.getD i true = false → ∀ t, n ≤ t → t ∉ Region.ready md ops listed := by
  intro d
  induction d using Nat.strongRecOn with
  | _ d ih =>
    intro i hd hi hiz hun t ht hr
    obtain ⟨_, ot, hot, hall⟩ := mem_ready.1 hr
    have htlt : t < ops.size := (Array.getElem?_eq_some_iff.1 hot).1
    by_cases htn : t = n
    · subst htn
      have h1 := List.all_eq_true.1 hs i (List.mem_range.2 hi)
      rw [show (i == z) = false from beq_eq_false_iff_ne.2 hiz, Bool.false_or] at h1
      obtain ⟨j, hj, hj2⟩ := List.any_eq_true.1 h1
      simp only [Bool.and_eq_true, decide_eq_true_eq, bne_iff_ne] at hj2
      obtain ⟨oj, hoj, e, he, hb, hon⟩ := Region.waitsFor_spec hj2.2.2
      have hjle : j ≤ t := by have := List.mem_range.1 hj; omega
      by_cases hjt : j = t
      · subst hjt
        have : oj = ot := Option.some.inj (hoj.symm.trans hot)
        subst this
        have h2 := hall e he hb
        rw [hon, getD_both hun] at h2
        cases h2
      · cases hl : listed.getD j false with
        | true =>
          have h2 := inv.closed j oj hoj hl e he hb
          rw [hon, getD_both hun] at h2
          cases h2
        | false =>
          have hjs : j < listed.size := by rw [inv.size]; omega
          exact ih (t - j) (by omega) j rfl (by omega) hj2.1 (getD_in hjs hl) t (Nat.le_refl _) hr
    · have h1 := List.all_eq_true.1 hc t (List.mem_range.2 htlt)
      simp only [Bool.or_eq_true, decide_eq_true_eq] at h1
      rcases h1 with h1 | h1
      · omega
      · obtain ⟨o', ho', e, he, hb, hon⟩ := Region.waitsFor_spec h1
        have : o' = ot := Option.some.inj (ho'.symm.trans hot)
        subst this
        have h2 := hall e he hb
        rw [hon, getD_both (inv.tail (t - 1) (by omega) (by omega))] at h2
        cases h2
theorem each_lazy {Q : Exit → Act → World → Prop} {n z : Nat} (hn : n < ops.size) (hB : eachBB md ops n a0.tmps.size = true) (hz : z < n) (hs : sinkZ md ops n z = true) (hc : Region.chainB md ops n = true) (hV : ∀ j v W W', V j v W → Below W.heap.size W W' → V j v W')
    (step : ∀ i o, i < n → ops[i]? = some o → ∀ a W, EachPre md ops V w0 a0 o a W → EachTurn P ops V i o a W)
    (hns : Region.noSelect ops = true) (hfree : Region.free md ops (LZ ops.size n z) z = true) (hQ : ∀ c a d v w, Q (.panic c) (Act.put a d v) w → Q (.panic c) a w)
    (lazy : ∀ o, ops[z]? = some o → ∀ a W, EachPre md ops V w0 a0 o a W → ∃ v, Region.wanted o (yielded ops a.tmps) = true ∧ (∀ W', (execOp a.eval o).run P W' = .ok (.value v) W') ∧ V z v W)
    (fin : ∀ a W, Below w0.heap.size w0 W → a.tmps.size = a0.tmps.size → a.defers = a0.defers → (∀ j d, j < n → dstOf ops j = some d → V j (a.tmps.getD d undef) W) → (∀ t, (∀ j, dstOf ops j ≠ some t) → a.tmps.getD t undef = a0.tmps.getD t undef) → wpAny P md ops Q (ops.size - n) (LT ops.size n) a W) :
    ∀ (f : Nat) (listed : Array Bool) (a : Act) (W : World), ups listed + f = n → HeadInv md ops n listed → EachInv ops V w0 a0 listed a W → wpAny P md ops Q (f + (ops.size - n)) listed a W := by
  intro f
  induction f with
  | zero =>
    intro listed a W hu hinv inv
    have hall := (ups_head (by rw [hinv.size]; omega) (fun t h1 h2 => hinv.tail t h1 (by rw [hinv.size] at h2; exact h2))).1 (by omega)
    rw [listed_LT hinv.size hall hinv.tail, Nat.zero_add]
    exact fin a W inv.b inv.size inv.defers (fun j d hj hd => inv.val j d hd (hall j hj)) inv.old
  | succ f ih =>
    intro listed a W hu hinv inv
    have hnot : ¬ ∀ i, i < n → listed.getD i false = true := fun h => by
      have := (ups_head (by rw [hinv.size]; omega) (fun t h1 h2 => hinv.tail t h1 (by rw [hinv.size] at h2; exact h2))).2 h
      omega
    obtain ⟨i0, hi0, hun⟩ : ∃ i, i < n ∧ listed.getD i true = false := by
      apply Classical.byContradiction
      intro h
      apply hnot
      intro i hi
      cases hl : listed.getD i false with
      | true => rfl
      | false => exact absurd ⟨i, hi, getD_in (by rw [hinv.size]; omega) hl⟩ h
    rw [show f + 1 + (ops.size - n) = (f + (ops.size - n)) + 1 by omega]
    by_cases hbut : ∀ i, i < n → i ≠ z → listed.getD i false = true
    · -- all but z
      have hzf : listed.getD z false = false := by
        cases hl : listed.getD z false with
        | false => rfl
        | true =>
          exfalso
          apply hnot
          intro i hi
          by_cases e : i = z
          · rw [e]; exact hl
          · exact hbut i hi e
      have hzt : listed.getD z true = false := getD_in (by rw [hinv.size]; omega) hzf
      have hLZ : listed = LZ ops.size n z := listed_LZ hinv.size hbut hzf hinv.tail
      have hzo : ops[z]? = some ops[z] := Array.getElem?_eq_getElem (by omega)
      obtain ⟨d, hd, hdn, hdist, haf⟩ := eachBB_at hB hz hzo
      have hrd : z ∈ Region.ready md ops listed := mem_ready.2 ⟨hzt, _, hzo, fun e he hb => hbut e.on (by have := haf e he hb; omega) (by have := haf e he hb; omega)⟩
      obtain ⟨v, hw, hrun, hv⟩ := lazy _ hzo a W ⟨inv.b, inv.size, fun j dj hj hwait => inv.val j dj hj (by
        obtain ⟨e, he, hb⟩ := Array.any_eq_true'.1 hwait
        simp only [Bool.and_eq_true, beq_iff_eq] at hb
        rw [← hb.2]
        have := haf e he hb.1
        exact hbut e.on (by omega) (by omega)), inv.old⟩
      refine wpAny_take hzo hns (hLZ ▸ hfree) (by simpa using hrd) (fun c a w => hQ c a _ _ w) (.inl ⟨hw, hrun⟩) ?_
      exact ih _ _ _ (by rw [ups_set hzt]; omega) (hinv.set hrd hz) (inv.step hd hdn hdist hV hzo hv (Below.refl _ _))
    obtain ⟨i1, hi1, hi1z, hun1⟩ : ∃ i, i < n ∧ i ≠ z ∧ listed.getD i true = false := by
      apply Classical.byContradiction
      intro h
      apply hbut
      intro i hi hne
      cases hl : listed.getD i false with
      | true => rfl
      | false => exact absurd ⟨i, hi, hne, getD_in (by rw [hinv.size]; omega) hl⟩ h
    refine ⟨fun hr => ?_, fun i hi => ?_⟩
    · exfalso
      apply hnot
      intro i
      induction i using Nat.strongRecOn with
      | _ i ihh =>
        intro hin
        cases hl : listed.getD i false with
        | true => rfl
        | false =>
          exfalso
          have hio : ops[i]? = some ops[i] := Array.getElem?_eq_getElem (by omega)
          obtain ⟨d, hd, _, _, haf⟩ := eachBB_at hB hin hio
          have : i ∈ Region.ready md ops listed := mem_ready.2 ⟨getD_in (by rw [hinv.size]; omega) hl, _, hio, fun e he hb => ihh e.on (haf e he hb) (by have := haf e he hb; omega)⟩
          rw [hr] at this
          cases this
    · obtain ⟨hun2, o, ho, hall⟩ := mem_ready.1 hi
      have hin : i < n := by
        rcases Nat.lt_or_ge i n with h | h
        · exact h
        · exact absurd hi (tail_waitsZ hs hc hn hinv _ i1 rfl hi1 hi1z hun1 i h)
      obtain ⟨d, hd, hdn, hdist, _⟩ := eachBB_at hB hin ho
      rcases step i o hin ho a W ⟨inv.b, inv.size, fun j dj hj hwait => inv.val j dj hj (by
        obtain ⟨e, he, hb⟩ := Array.any_eq_true'.1 hwait
        simp only [Bool.and_eq_true, beq_iff_eq] at hb
        rw [← hb.2]
        exact hall e he hb.1), inv.old⟩ with ⟨hw, hdo⟩ | ⟨hw, hsk⟩
      rotate_left
      · unfold wpOp
        simp only [ho, hw, Bool.false_eq_true, if_false]
        exact ih _ _ _ (by rw [ups_set hun2]; omega) (hinv.set hi hin) (inv.step hd hdn hdist hV ho hsk (Below.refl _ _))
      unfold wpOp
      simp only [ho, hw, if_true]
      refine .inl (Oper.wp_mono ?_ (hdo Q))
      rintro a' W' ⟨v, rfl, hv, hb⟩
      exact ih _ _ _ (by rw [ups_set hun2]; omega) (hinv.set hi hin) (inv.step hd hdn hdist hV ho hv hb)
theorem wp_region_each_lazy {id : Nat} {Q : Exit → Act → World → Prop} {w : World} {l : List Oper} (n z : Nat) (V : Nat → Value → World → Prop) (hm : P.follows .mixedOrders = true) (hB : (decide (n < l.length) && eachBB .any l.toArray n a0.tmps.size && decide (z < n) && sinkZ .any l.toArray n z && Region.noSelect l.toArray && Region.free .any l.toArray (LZ l.length n z) z && Region.chainB .any l.toArray n && Region.seqB .any l.toArray (l.length - n) n (LT l.length n)) = true) (hV : ∀ j v W W', V j v W → Below W.heap.size W W' → V j v W')
    (turns : AllTurns (fun i o => ∀ a W, EachPre .any l.toArray V w.drew a0 o a W → EachTurn P l.toArray V i o a W) (l.take n) 0)
    (hQ : ∀ c a d v w, Q (.panic c) (Act.put a d v) w → Q (.panic c) a w)
    (lazy : ∀ o, l.toArray[z]? = some o → ∀ a W, EachPre .any l.toArray V w.drew a0 o a W → ∃ v, Region.wanted o (yielded l.toArray a.tmps) = true ∧ (∀ W', (execOp a.eval o).run P W' = .ok (.value v) W') ∧ V z v W)
    (fin : ∀ a W, Below w.drew.heap.size w.drew W → a.tmps.size = a0.tmps.size → a.defers = a0.defers → (∀ j d, j < n → dstOf l.toArray j = some d → V j (a.tmps.getD d undef) W) → (∀ t, (∀ j, dstOf l.toArray j ≠ some t) → a.tmps.getD t undef = a0.tmps.getD t undef) → wpList P l.toArray Q (l.drop n) a W) :
    (Code.region id l.toArray true).wp P Q a0 w := by
  simp only [Bool.and_eq_true, decide_eq_true_eq] at hB
  obtain ⟨⟨⟨⟨⟨⟨⟨h1, h2⟩, h6⟩, h3⟩, h7⟩, h8⟩, h4⟩, h5⟩ := hB
  have hsz : l.toArray.size = l.length := by simp
  have inv0 : HeadInv .any l.toArray n (Array.replicate l.toArray.size false) :=
    ⟨by simp, fun j oj _ hl => (by rw [getD_replicate_false] at hl; cases hl), fun t _ ht => getD_in (by simpa using ht) (getD_replicate_false _ _)⟩
  have H := each_lazy (P := P) (md := .any) (Q := Q) (w0 := w.drew) (by rw [hsz]; exact h1) h2 h6 h3 h4 hV (fun i o hin ho => by
    have := turns.at_ (i := i) (o := o) (by rw [List.getElem?_take]; simp [hin]; simpa using ho)
    rwa [Nat.zero_add] at this) h7 (by rw [hsz]; exact h8) hQ lazy (fun a W x1 x2 x3 x4 x5 => by
    have := wpAny_of_seq (P := P) (ops := l.toArray) (md := .any) (Q' := Q) (l.drop n) n (LT l.toArray.size n) a W (fun j => by simp [List.getElem?_drop]) (by rw [List.length_drop, hsz]; exact h5) (fin a W x1 x2 x3 x4 x5)
    rwa [List.length_drop, ← hsz] at this) n (Array.replicate l.toArray.size false) a0 w.drew (by simp [ups, List.count_replicate]) inv0 ⟨by simp, Below.refl _ _, rfl, rfl, fun j d _ hl => (by rw [getD_replicate_false] at hl; cases hl), fun _ _ => rfl⟩
  rw [show n + (l.toArray.size - n) = l.toArray.size by omega] at H
  exact wp_region_any hm H
end
end Go.Proofs.YtdeikpifflkabaaDoor

namespace Go.Proofs.YtdeikpifflkabaaDoor
open Go.RowKit
set_option linter.unusedVariables false
set_option linter.unusedSimpArgs false

section
variable {P : Program} {ops : Array Oper} {md : Region.Mode} {V : Nat → Value → World → Prop} {w0 : World} {a0 : Act}

/-- t waits for h, through others. -/
def waitsT (md : Region.Mode) (ops : Array Oper) : Nat → Nat → Nat → Bool
  | 0, _, _ => false
  | f + 1, t, h => Region.waitsFor md ops t h || (List.range ops.size).any fun j => Region.waitsFor md ops t j && waitsT md ops f j h
def headB (md : Region.Mode) (ops : Array Oper) (hs zs : List Nat) (m i : Nat) : Bool := match ops[i]? with
  | some o => (match o.dst with
      | some d => decide (d < m) && (List.range ops.size).all fun j => j == i || dstOf ops j != some d
      | none => false) && o.after.all fun e => !Region.binds md e || (hs.contains e.on && (!zs.contains e.on && (zs.contains i || decide (e.on < i))))
  | none => false
def LS (m : Nat) (p : Nat → Bool) : Array Bool := (Array.range m).map p
def seqLB (md : Region.Mode) (ops : Array Oper) : List Nat → Array Bool → Bool
  | [], listed => (Region.ready md ops listed).isEmpty
  | k :: r, listed => decide (Region.ready md ops listed = [k]) && seqLB md ops r (listed.setIfInBounds k true)
/-- What the kernel checks. -/
def partB (md : Region.Mode) (ops : Array Oper) (hs zs ts : List Nat) (m : Nat) : Bool :=
  ((hs.all (headB md ops hs zs m) && zs.all hs.contains) && (hs.all (fun i => decide (i < ops.size)) && Region.noSelect ops)) &&
  (((List.range ops.size).all (fun t => hs.contains t || hs.all fun h => zs.contains h || waitsT md ops ops.size t h)) &&
  (zs.all (fun z => Region.free md ops (LS ops.size fun i => hs.contains i && !zs.contains i) z) && seqLB md ops ts (LS ops.size hs.contains)))

theorem headB_at {hs zs : List Nat} {m i : Nat} {o : Oper} (h : headB md ops hs zs m i = true) (hi : ops[i]? = some o) : ∃ d, o.dst = some d ∧ d < m ∧ (∀ j, j ≠ i → dstOf ops j ≠ some d) ∧ ∀ e ∈ o.after, Region.binds md e = true → e.on ∈ hs ∧ e.on ∉ zs ∧ (i ∈ zs ∨ e.on < i) := by
  unfold headB at h
  simp only [hi, Bool.and_eq_true] at h
  obtain ⟨h2, h3⟩ := h
  cases hd : o.dst with
  | none => rw [hd] at h2; cases h2
  | some d =>
    rw [hd] at h2
    simp only [Bool.and_eq_true, decide_eq_true_eq] at h2
    refine ⟨d, rfl, h2.1, fun j hj hjd => ?_, fun e he hb => ?_⟩
    · have hjl : j < ops.size := by
        unfold dstOf at hjd
        rcases Nat.lt_or_ge j ops.size with h | h
        · exact h
        · rw [Array.getElem?_eq_none h] at hjd; cases hjd
      have := List.all_eq_true.1 h2.2 j (List.mem_range.2 hjl)
      simp only [Bool.or_eq_true, beq_iff_eq, bne_iff_ne] at this
      rcases this with h | h
      · exact hj h
      · exact h hjd
    · have := (Array.all_eq_true'.1 h3) e he
      simpa [hb] using this
/-- Of what is listed. -/
structure PartInv (md : Region.Mode) (ops : Array Oper) (hs : List Nat) (listed : Array Bool) : Prop where
  size : listed.size = ops.size
  closed : ∀ j oj, ops[j]? = some oj → listed.getD j false = true → ∀ e ∈ oj.after, Region.binds md e = true → listed.getD e.on false = true
  tail : ∀ t, t ∉ hs → t < ops.size → listed.getD t true = false
theorem PartInv.set {hs : List Nat} {i : Nat} {listed : Array Bool} (inv : PartInv md ops hs listed) (hi : i ∈ Region.ready md ops listed) (hin : i ∈ hs) : PartInv md ops hs (listed.setIfInBounds i true) := by
  obtain ⟨_, oi, hoi, hall⟩ := mem_ready.1 hi
  refine ⟨by simp [inv.size], fun j oj hj hl e he hb => ?_, fun t ht ht' => by rw [getD_set_ne true (by rintro rfl; exact ht hin)]; exact inv.tail t ht ht'⟩
  by_cases hij : i = j
  · subst hij
    have : oj = oi := Option.some.inj (hj.symm.trans hoi)
    subst this
    exact getD_set_true (hall e he hb)
  · rw [getD_set_ne false hij] at hl
    exact getD_set_true (inv.closed j oj hj hl e he hb)
theorem waitsT_listed {hs : List Nat} {listed : Array Bool} (inv : PartInv md ops hs listed) : ∀ (f t h : Nat), waitsT md ops f t h = true → (∀ ot, ops[t]? = some ot → ∀ e ∈ ot.after, Region.binds md e = true → listed.getD e.on false = true) → listed.getD h false = true
  | 0, _, _, h, _ => by cases h
  | f + 1, t, h, hw, ht => by
    rw [waitsT, Bool.or_eq_true] at hw
    rcases hw with hw | hw
    · obtain ⟨ot, hot, e, he, hb, hon⟩ := Region.waitsFor_spec hw
      rw [← hon]
      exact ht ot hot e he hb
    · obtain ⟨j, _, hj⟩ := List.any_eq_true.1 hw
      rw [Bool.and_eq_true] at hj
      obtain ⟨ot, hot, e, he, hb, hon⟩ := Region.waitsFor_spec hj.1
      have hjl := ht ot hot e he hb
      rw [hon] at hjl
      exact waitsT_listed inv f j h hj.2 (fun oj hoj e' he' hb' => inv.closed j oj hoj hjl e' he' hb')
theorem free_more {L L' : Array Bool} {z : Nat} (h : Region.free md ops L z = true) (hl : ∀ j, L.getD j true = true → L'.getD j true = true) : Region.free md ops L' z = true := by
  unfold Region.free at h ⊢
  cases ho : ops[z]? with
  | none => rw [ho] at h; cases h
  | some oi =>
    simp only [ho, List.all_eq_true, List.mem_range] at h ⊢
    intro j hj
    have := h j hj
    simp only [Bool.or_eq_true] at this ⊢
    rcases this with (h1 | h1) | h1
    · exact .inl (.inl h1)
    · exact .inl (.inr (hl j h1))
    · exact .inr h1
theorem wpAny_of_seqL {Q' : Exit → Act → World → Prop} : ∀ (ts : List Nat) (listed : Array Bool) (a : Act) (w : World), seqLB md ops ts listed = true → wpList P ops Q' (ts.filterMap (ops[·]?)) a w → (∀ t ∈ ts, t < ops.size) → wpAny P md ops Q' ts.length listed a w
  | [], listed, a, w, hB, h, _ => ⟨by simpa [seqLB] using hB, h⟩
  | k :: r, listed, a, w, hB, h, hts => by
    simp only [seqLB, Bool.and_eq_true, decide_eq_true_eq] at hB
    obtain ⟨ok, hk⟩ : ∃ o, ops[k]? = some o := ⟨_, Array.getElem?_eq_getElem (hts k (by simp))⟩
    refine ⟨fun h1 => (by rw [hB.1] at h1; cases h1), fun i hi => ?_⟩
    rw [hB.1] at hi
    have hik : i = k := by simpa using hi
    subst hik
    have hw : wpOp P ops Q' i (wpList P ops Q' (r.filterMap (ops[·]?))) a w := by
      unfold wpOp
      simp only [hk]
      rw [List.filterMap_cons, hk] at h
      exact h
    exact wpOp_mono (fun a' w' h' => wpAny_of_seqL r _ a' w' hB.2 h' (fun t ht => hts t (by simp [ht]))) hw
theorem listed_LS {listed : Array Bool} {m : Nat} {p : Nat → Bool} (hm : listed.size = m) (h : ∀ i, i < m → listed.getD i false = p i) : listed = LS m p := by
  apply Array.ext
  · simp [LS, hm]
  · intro i h1 h2
    simp only [LS, Array.getElem_map, Array.getElem_range]
    have := h i (by omega)
    simp [h1] at this
    exact this
def AllOf (T : Nat → Prop) : List Nat → Prop
  | [] => True
  | i :: r => T i ∧ AllOf T r
theorem AllOf.at_ {T : Nat → Prop} : ∀ {l : List Nat} {i : Nat}, AllOf T l → i ∈ l → T i
  | _ :: _, i, h, hi => by
    rcases List.mem_cons.1 hi with rfl | hi
    · exact h.1
    · exact AllOf.at_ h.2 hi
theorem not_all {listed : Array Bool} {n : Nat} {p : Nat → Prop} (hs : listed.size = n) (h : ¬ ∀ i, i < n → p i → listed.getD i false = true) : ∃ i, i < n ∧ p i ∧ listed.getD i true = false := by
  apply Classical.byContradiction
  intro h'
  apply h
  intro i hi hp
  cases hl : listed.getD i false with
  | true => rfl
  | false => exact absurd ⟨i, hi, hp, getD_in (by rw [hs]; exact hi) hl⟩ h'

theorem each_part {Q : Exit → Act → World → Prop} {hs zs ts : List Nat} (hB : partB md ops hs zs ts a0.tmps.size = true) (hts : (∀ t ∈ ts, t < ops.size) ∧ hs.length + ts.length = ops.size ∧ hs.Nodup) (hV : ∀ j v W W', V j v W → Below W.heap.size W W' → V j v W')
    (step : AllOf (fun i => ∀ o, ops[i]? = some o → ∀ a W, EachPre md ops V w0 a0 o a W → EachTurn P ops V i o a W) hs)
    (hQ : ∀ c a d v w, Q (.panic c) (Act.put a d v) w → Q (.panic c) a w)
    (lazy : AllOf (fun z => ∀ o, ops[z]? = some o → ∀ a W, EachPre md ops V w0 a0 o a W → ∃ v, Region.wanted o (yielded ops a.tmps) = true ∧ (∀ W', (execOp a.eval o).run P W' = .ok (.value v) W') ∧ V z v W) zs)
    (fin : ∀ a W, Below w0.heap.size w0 W → a.tmps.size = a0.tmps.size → a.defers = a0.defers → (∀ j d, j ∈ hs → dstOf ops j = some d → V j (a.tmps.getD d undef) W) → (∀ t, (∀ j, dstOf ops j ≠ some t) → a.tmps.getD t undef = a0.tmps.getD t undef) → wpList P ops Q (ts.filterMap (ops[·]?)) a W) :
    ∀ (f : Nat) (listed : Array Bool) (a : Act) (W : World), ups listed + f = hs.length → PartInv md ops hs listed → EachInv ops V w0 a0 listed a W → wpAny P md ops Q (f + ts.length) listed a W := by
  simp only [partB, Bool.and_eq_true] at hB
  obtain ⟨⟨⟨hB1, hB2⟩, hB3, hB4⟩, hB5, hB6, hB7⟩ := hB
  have hlt : ∀ i ∈ hs, i < ops.size := fun i hi => by simpa using List.all_eq_true.1 hB3 i hi
  have hzs : ∀ z ∈ zs, z ∈ hs := fun z hz => by simpa using List.all_eq_true.1 hB2 z hz
  -- how many are up, where all heads are listed
  have upsAll : ∀ (listed : Array Bool), PartInv md ops hs listed → (∀ i ∈ hs, listed.getD i false = true) → listed = LS ops.size hs.contains := fun listed inv h =>
    listed_LS inv.size (fun i hi => by
      by_cases hm : i ∈ hs
      · rw [h i hm]; simp [hm]
      · rw [getD_both (inv.tail i hm hi)]; simp [hm])
  have upsLS : ups (LS ops.size hs.contains) = hs.length := by
    have h1 : (LS ops.size hs.contains).toList = (List.range ops.size).map hs.contains := by simp [LS]
    unfold ups
    rw [h1, List.count_eq_countP, List.countP_map]
    have h2 : (List.range ops.size).countP ((· == true) ∘ hs.contains) = ((List.range ops.size).filter fun i => hs.contains i).length := by
      rw [List.countP_eq_length_filter]
      congr 1
      apply List.filter_congr
      intro x _
      simp
    rw [h2]
    have h3 : ((List.range ops.size).filter fun i => hs.contains i).Perm hs := by
      refine (List.perm_ext_iff_of_nodup (List.nodup_range.filter _) hts.2.2).2 fun x => ?_
      simp only [List.mem_filter, List.mem_range, List.contains_iff_mem]
      exact ⟨fun h => h.2, fun h => ⟨hlt x h, h⟩⟩
    exact h3.length_eq
  intro f
  induction f with
  | zero =>
    intro listed a W hu hinv inv
    have hall : ∀ i ∈ hs, listed.getD i false = true := by
      apply Classical.byContradiction
      intro h
      have hne : ∃ i, i ∈ hs ∧ listed.getD i true = false := by
        apply Classical.byContradiction
        intro h'
        apply h
        intro i hi
        cases hl : listed.getD i false with
        | true => rfl
        | false => exact absurd ⟨i, hi, getD_in (by rw [hinv.size]; exact hlt i hi) hl⟩ h'
      obtain ⟨i, hi, hun⟩ := hne
      -- then fewer are up
      have hlt2 : ups listed < hs.length := by
        have h1 := ups_set hun
        have h2 : ups (listed.setIfInBounds i true) ≤ ups (LS ops.size hs.contains) := by
          unfold ups
          have hle : ∀ (l l' : List Bool), l.length = l'.length → (∀ k : Nat, l[k]? = some true → l'[k]? = some true) → l.count true ≤ l'.count true := by
            intro l
            induction l with
            | nil => intro l' _ _; simp
            | cons x l ih =>
              intro l' hlen hk
              cases l' with
              | nil => simp at hlen
              | cons y l' =>
                have h0 := ih l' (by simpa using hlen) (fun k hk' => by have := hk (k + 1) (by simpa using hk'); simpa using this)
                have hx := hk 0
                cases x with
                | false => rw [List.count_cons]; simp; exact Nat.le_trans h0 (by rw [List.count_cons]; omega)
                | true =>
                  have : y = true := by simpa using hx rfl
                  subst this
                  rw [List.count_cons, List.count_cons]
                  simp
                  exact h0
          refine hle _ _ (by simp [LS, hinv.size]) (fun k hk => ?_)
          have hks : k < listed.size := by
            have := (List.getElem?_eq_some_iff.1 hk).1
            simpa using this
          by_cases hm : k ∈ hs
          · simp [LS, hm]
            rw [← hinv.size]
            exact ⟨k, List.getElem?_range hks, hm⟩
          · exfalso
            have h3 := hinv.tail k hm (by rw [← hinv.size]; exact hks)
            have hik : i ≠ k := by rintro rfl; exact hm hi
            have h5 : listed[k]? = some true := by simpa [List.getElem?_set, hik] using hk
            simp [hks] at h3 h5
            rw [h3] at h5
            cases h5
        rw [upsLS] at h2
        omega
      omega
    rw [upsAll listed hinv hall, Nat.zero_add]
    exact wpAny_of_seqL ts _ a W hB7 (fin a W inv.b inv.size inv.defers (fun j d hj hd => inv.val j d hd (hall j hj)) inv.old) hts.1
  | succ f ih =>
    intro listed a W hu hinv inv
    rw [show f + 1 + ts.length = (f + ts.length) + 1 by omega]
    by_cases hbut : ∀ i, i < ops.size → (i ∈ hs ∧ i ∉ zs) → listed.getD i false = true
    · -- all but lazies: there is one that is not listed
      have hz : ∃ z, z ∈ zs ∧ listed.getD z true = false := by
        apply Classical.byContradiction
        intro h
        have hall : ∀ i ∈ hs, listed.getD i false = true := fun i hi => by
          by_cases hiz : i ∈ zs
          · cases hl : listed.getD i false with
            | true => rfl
            | false => exact absurd ⟨i, hiz, getD_in (by rw [hinv.size]; exact hlt i hi) hl⟩ h
          · exact hbut i (hlt i hi) ⟨hi, hiz⟩
        have h1 := upsAll listed hinv hall
        rw [h1, upsLS] at hu
        omega
      obtain ⟨z, hzz, hzt⟩ := hz
      have hzh := hzs z hzz
      obtain ⟨oz, hzo⟩ : ∃ o, ops[z]? = some o := ⟨_, Array.getElem?_eq_getElem (hlt z hzh)⟩
      obtain ⟨d, hd, hdn, hdist, haf⟩ := headB_at (List.all_eq_true.1 hB1 z hzh) hzo
      have hrd : z ∈ Region.ready md ops listed := mem_ready.2 ⟨hzt, _, hzo, fun e he hb => by
        obtain ⟨h1, h2, _⟩ := haf e he hb
        exact hbut e.on (hlt _ h1) ⟨h1, h2⟩⟩
      obtain ⟨v, hw, hrun, hv⟩ := AllOf.at_ lazy hzz _ hzo a W ⟨inv.b, inv.size, fun j dj hj hwait => inv.val j dj hj (by
        obtain ⟨e, he, hb⟩ := Array.any_eq_true'.1 hwait
        simp only [Bool.and_eq_true, beq_iff_eq] at hb
        rw [← hb.2]
        obtain ⟨h1, h2, _⟩ := haf e he hb.1
        exact hbut e.on (hlt _ h1) ⟨h1, h2⟩), inv.old⟩
      have hfr : Region.free md ops listed z = true := free_more (List.all_eq_true.1 hB6 z hzz) (fun j hj => by
        by_cases hjs : j < ops.size
        · have hj2 : (hs.contains j && !zs.contains j) = true := by simpa [LS, hjs] using hj
          have hj3 : j ∈ hs ∧ j ∉ zs := by simpa using hj2
          have := hbut j hjs hj3
          simp [show j < listed.size by rw [hinv.size]; exact hjs] at this ⊢
          exact this
        · simp [Array.getElem?_eq_none (show listed.size ≤ j by rw [hinv.size]; omega)])
      refine wpAny_take hzo hB4 hfr (by simpa using hrd) (fun c a w => hQ c a _ _ w) (.inl ⟨hw, hrun⟩) ?_
      exact ih _ _ _ (by rw [ups_set hzt]; omega) (hinv.set hrd hzh) (inv.step hd hdn hdist hV hzo hv (Below.refl _ _))
    · obtain ⟨i1, hi1, hi1h, hun1⟩ := not_all hinv.size hbut
      refine ⟨fun hr => ?_, fun i hi => ?_⟩
      · exfalso
        have key : ∀ i, i < ops.size → (i ∈ hs ∧ i ∉ zs) → listed.getD i false = true := by
          intro i
          induction i using Nat.strongRecOn with
          | _ i ihh =>
            intro hin him
            cases hl : listed.getD i false with
            | true => rfl
            | false =>
              exfalso
              obtain ⟨oi, hio⟩ : ∃ o, ops[i]? = some o := ⟨_, Array.getElem?_eq_getElem hin⟩
              obtain ⟨d, hd, _, _, haf⟩ := headB_at (List.all_eq_true.1 hB1 i him.1) hio
              have : i ∈ Region.ready md ops listed := mem_ready.2 ⟨getD_in (by rw [hinv.size]; omega) hl, _, hio, fun e he hb => by
                obtain ⟨h1, h2, h3⟩ := haf e he hb
                rcases h3 with h3 | h3
                · exact absurd h3 him.2
                · exact ihh e.on h3 (hlt _ h1) ⟨h1, h2⟩⟩
              rw [hr] at this
              cases this
        exact hbut key
      · obtain ⟨hun2, o, ho, hall⟩ := mem_ready.1 hi
        have hios : i < ops.size := (Array.getElem?_eq_some_iff.1 ho).1
        have hin : i ∈ hs := by
          apply Classical.byContradiction
          intro hn
          have h1 := List.all_eq_true.1 hB5 i (List.mem_range.2 hios)
          rw [Bool.or_eq_true] at h1
          rcases h1 with h1 | h1
          · exact hn (by simpa using h1)
          · have h2 := List.all_eq_true.1 h1 i1 hi1h.1
            rw [Bool.or_eq_true] at h2
            rcases h2 with h2 | h2
            · exact hi1h.2 (by simpa using h2)
            · have := waitsT_listed hinv _ i i1 h2 (fun ot hot e he hb => by
                have : ot = o := Option.some.inj (hot.symm.trans ho)
                subst this
                exact hall e he hb)
              rw [getD_both hun1] at this
              cases this
        obtain ⟨d, hd, hdn, hdist, _⟩ := headB_at (List.all_eq_true.1 hB1 i hin) ho
        rcases AllOf.at_ step hin o ho a W ⟨inv.b, inv.size, fun j dj hj hwait => inv.val j dj hj (by
          obtain ⟨e, he, hb⟩ := Array.any_eq_true'.1 hwait
          simp only [Bool.and_eq_true, beq_iff_eq] at hb
          rw [← hb.2]
          exact hall e he hb.1), inv.old⟩ with ⟨hw, hdo⟩ | ⟨hw, hsk⟩
        rotate_left
        · unfold wpOp
          simp only [ho, hw, Bool.false_eq_true, if_false]
          exact ih _ _ _ (by rw [ups_set hun2]; omega) (hinv.set hi hin) (inv.step hd hdn hdist hV ho hsk (Below.refl _ _))
        unfold wpOp
        simp only [ho, hw, if_true]
        refine .inl (Oper.wp_mono ?_ (hdo Q))
        rintro a' W' ⟨v, rfl, hv, hb⟩
        exact ih _ _ _ (by rw [ups_set hun2]; omega) (hinv.set hi hin) (inv.step hd hdn hdist hV ho hv hb)
/-- The law, as the model's walk over orders. -/
theorem any_part {Q : Exit → Act → World → Prop} {w : World} {l : List Oper} (hs zs ts : List Nat) (V : Nat → Value → World → Prop) (hB : (partB .any l.toArray hs zs ts a0.tmps.size && (ts.all (fun t => decide (t < l.length)) && (decide (hs.length + ts.length = l.length) && decide hs.Nodup))) = true) (hV : ∀ j v W W', V j v W → Below W.heap.size W W' → V j v W')
    (turns : AllOf (fun i => ∀ o, l.toArray[i]? = some o → ∀ a W, EachPre .any l.toArray V w.drew a0 o a W → EachTurn P l.toArray V i o a W) hs)
    (hQ : ∀ c a d v w, Q (.panic c) (Act.put a d v) w → Q (.panic c) a w)
    (lazy : AllOf (fun z => ∀ o, l.toArray[z]? = some o → ∀ a W, EachPre .any l.toArray V w.drew a0 o a W → ∃ v, Region.wanted o (yielded l.toArray a.tmps) = true ∧ (∀ W', (execOp a.eval o).run P W' = .ok (.value v) W') ∧ V z v W) zs)
    (fin : ∀ a W, Below w.drew.heap.size w.drew W → a.tmps.size = a0.tmps.size → a.defers = a0.defers → (∀ j d, j ∈ hs → dstOf l.toArray j = some d → V j (a.tmps.getD d undef) W) → (∀ t, (∀ j, dstOf l.toArray j ≠ some t) → a.tmps.getD t undef = a0.tmps.getD t undef) → wpList P l.toArray Q (ts.filterMap (l.toArray[·]?)) a W) :
    wpAny P .any l.toArray Q l.toArray.size (Array.replicate l.toArray.size false) a0 w.drew := by
  simp only [Bool.and_eq_true, decide_eq_true_eq] at hB
  obtain ⟨h1, h2, h3, h4⟩ := hB
  have hsz : l.toArray.size = l.length := by simp
  have inv0 : PartInv .any l.toArray hs (Array.replicate l.toArray.size false) :=
    ⟨by simp, fun j oj _ hl => (by rw [getD_replicate_false] at hl; cases hl), fun t _ ht => getD_in (by simpa using ht) (getD_replicate_false _ _)⟩
  have H := each_part (P := P) (md := .any) (Q := Q) (w0 := w.drew) h1 ⟨fun t ht => by rw [hsz]; simpa using List.all_eq_true.1 h2 t ht, by rw [hsz]; exact h3, h4⟩ hV turns hQ lazy fin hs.length (Array.replicate l.toArray.size false) a0 w.drew (by simp [ups, List.count_replicate]) inv0 ⟨by simp, Below.refl _ _, rfl, rfl, fun j d _ hl => (by rw [getD_replicate_false] at hl; cases hl), fun _ _ => rfl⟩
  rw [show hs.length + ts.length = l.toArray.size by rw [hsz]; exact h3] at H
  exact H
theorem wp_region_part {id : Nat} {Q : Exit → Act → World → Prop} {w : World} {l : List Oper} (hs zs ts : List Nat) (V : Nat → Value → World → Prop) (hm : P.follows .mixedOrders = true) (hB : (partB .any l.toArray hs zs ts a0.tmps.size && (ts.all (fun t => decide (t < l.length)) && (decide (hs.length + ts.length = l.length) && decide hs.Nodup))) = true) (hV : ∀ j v W W', V j v W → Below W.heap.size W W' → V j v W')
    (turns : AllOf (fun i => ∀ o, l.toArray[i]? = some o → ∀ a W, EachPre .any l.toArray V w.drew a0 o a W → EachTurn P l.toArray V i o a W) hs)
    (hQ : ∀ c a d v w, Q (.panic c) (Act.put a d v) w → Q (.panic c) a w)
    (lazy : AllOf (fun z => ∀ o, l.toArray[z]? = some o → ∀ a W, EachPre .any l.toArray V w.drew a0 o a W → ∃ v, Region.wanted o (yielded l.toArray a.tmps) = true ∧ (∀ W', (execOp a.eval o).run P W' = .ok (.value v) W') ∧ V z v W) zs)
    (fin : ∀ a W, Below w.drew.heap.size w.drew W → a.tmps.size = a0.tmps.size → a.defers = a0.defers → (∀ j d, j ∈ hs → dstOf l.toArray j = some d → V j (a.tmps.getD d undef) W) → (∀ t, (∀ j, dstOf l.toArray j ≠ some t) → a.tmps.getD t undef = a0.tmps.getD t undef) → wpList P l.toArray Q (ts.filterMap (l.toArray[·]?)) a W) :
    (Code.region id l.toArray true).wp P Q a0 w :=
  wp_region_any hm (any_part hs zs ts V hB hV turns hQ lazy fin)

/-! Inside a round of a range over a function. -/
theorem opIn_of {L n : Nat} {o : Oper} {a : Act} {w : World} {K : Act → World → Prop} {Q : Exit → Act → World → Prop} (hd : ∀ c, o.op ≠ .defer c) (h : o.wp P a w K Q) : o.wpIn (Fence.wide.inRound L) n P a w K Q := by
  refine ⟨fun f _ => trivial, ?_⟩
  unfold Oper.wp at h
  rw [show (Fence.wide.inRound L).round = some L from rfl, Oper.semAt_some L _ _ hd]
  generalize (execOp a.eval o).run P w = r at h ⊢
  cases r with
  | ok x w' =>
    cases x with
    | value v => exact h
    | skip => exact h
    | defer d => exact h
    | enter f args => exact ⟨fun h => by simp [Fence.wide, Fence.inRound] at h, show CallsIn (Fence.wide.inRound L) _ P f args w' _ from (callsIn_wide (n := n - 1)).2 h⟩
    | row row args => exact ⟨fun h => by simp [Fence.wide, Fence.inRound] at h, fun c cs _ => let ⟨v, w', r, s⟩ := h c cs; ⟨v, w', r, stepsIn_wide.2 s⟩⟩
    | _ => exact h.elim
  | halt x w' => cases x <;> exact h
def noDefer (ops : Array Oper) : Bool := ops.all fun o => match o.op with
  | .defer _ => false
  | _ => true
theorem anyIn_of {L n : Nat} {Q : Exit → Act → World → Prop} (hno : ¬ LetsOut Q) (hd : noDefer ops = true) : ∀ (f : Nat) (listed : Array Bool) (a : Act) (w : World), wpAny P md ops Q f listed a w → wpAnyIn (Fence.wide.inRound L) n P md ops Q f listed a w
  | 0, _, _, _, h => h
  | f + 1, listed, a, w, h => by
    refine ⟨h.1, fun i hi => ?_⟩
    have h2 := h.2 i hi
    unfold wpOp at h2
    unfold wpOpIn
    cases ho : ops[i]? with
    | none =>
      simp only [ho] at h2 ⊢
      exact anyIn_of hno hd f _ _ _ h2
    | some o =>
      simp only [ho] at h2 ⊢
      have hod : ∀ c, o.op ≠ .defer c := fun c e => by
        have := Array.all_eq_true'.1 hd o (Array.mem_of_getElem? ho)
        rw [e] at this
        cases this
      split
      · rename_i hw
        rw [if_pos hw] at h2
        rcases h2 with h2 | h2
        · exact Oper.wpIn_mono (fun a' w' h' => anyIn_of hno hd f _ a' w' h') (opIn_of hod h2)
        · exact absurd h2.2 hno
      · rename_i hw
        rw [if_neg hw] at h2
        exact ⟨fun f _ => trivial, anyIn_of hno hd f _ _ _ h2⟩
theorem in_region_part {L n id : Nat} {Q : Exit → Act → World → Prop} {w : World} {l : List Oper} (hm : P.follows .mixedOrders = true) (hno : ¬ LetsOut Q) (hd : noDefer l.toArray = true) (h : wpAny P .any l.toArray Q l.toArray.size (Array.replicate l.toArray.size false) a0 w.drew) : (Code.region id l.toArray true).wpIn (Fence.wide.inRound L) n P Q a0 w :=
  wpIn_region_any hm (anyIn_of hno hd _ _ _ _ h)
end
end Go.Proofs.YtdeikpifflkabaaDoor
