/- What this text proves: a law for a region that leaves its order open, makes memory, and ends with a chain of operations that wait for all others: each of the others is judged once, in whatever world its turn comes; then the chain is gone through in the order of the text. The conditions are checked by the kernel, or the law's own premises. -/
import Derived.Test.YtdeikpifflkabaaDoorEach
namespace Go.Proofs.YtdeikpifflkabaaDoor
open Go.RowKit
set_option linter.unusedVariables false
set_option linter.unusedSimpArgs false

section
variable {P : Program} {ops : Array Oper} {md : Region.Mode} {V : Nat → Value → World → Prop} {w0 : World} {a0 : Act}
/-- What the kernel checks of the first n operations. -/
def eachTB (ops : Array Oper) (n m : Nat) : Bool :=
  (List.range n).all fun i => match ops[i]? with
    | some o => (match o.dst with
        | some d => decide (d < m) && (List.range ops.size).all fun j => j == i || dstOf ops j != some d
        | none => false) && o.after.all fun e => decide (e.on < i)
    | none => false
theorem eachTB_at {n m i : Nat} {o : Oper} (h : eachTB ops n m = true) (hin : i < n) (hi : ops[i]? = some o) : ∃ d, o.dst = some d ∧ d < m ∧ (∀ j, j ≠ i → dstOf ops j ≠ some d) ∧ ∀ e ∈ o.after, e.on < i := by
  have h1 := List.all_eq_true.1 h i (List.mem_range.2 hin)
  simp only [hi, Bool.and_eq_true] at h1
  obtain ⟨h2, h3⟩ := h1
  cases hd : o.dst with
  | none => rw [hd] at h2; cases h2
  | some d =>
    rw [hd] at h2
    simp only [Bool.and_eq_true, decide_eq_true_eq] at h2
    refine ⟨d, rfl, h2.1, fun j hj hjd => ?_, fun e he => by simpa using (Array.all_eq_true'.1 h3) e he⟩
    have hjl : j < ops.size := by
      unfold dstOf at hjd
      rcases Nat.lt_or_ge j ops.size with h | h
      · exact h
      · rw [Array.getElem?_eq_none h] at hjd; cases hjd
    have := List.all_eq_true.1 h2.2 j (List.mem_range.2 hjl)
    simp only [Bool.or_eq_true, beq_iff_eq, bne_iff_ne] at this
    rcases this with h | h
    · exact hj h
    · exact h hjd
theorem EachInv.step {i d : Nat} {o : Oper} {listed : Array Bool} {a : Act} {W W' : World} {v : Value} (hd : o.dst = some d) (hdn : d < a0.tmps.size) (hdist : ∀ j, j ≠ i → dstOf ops j ≠ some d) (hV : ∀ j v W W', V j v W → Below W.heap.size W W' → V j v W')
    (inv : EachInv ops V w0 a0 listed a W) (hi : ops[i]? = some o) (hv : V i v W') (hb : Below W.heap.size W W') : EachInv ops V w0 a0 (listed.setIfInBounds i true) (a.put o.dst v) W' := by
  rw [hd]
  refine ⟨by simp [inv.lsz], inv.b.trans (hb.mono inv.b.size), by simp [Act.put, inv.size], inv.defers, fun j dj hj hl => ?_, fun t ht => ?_⟩
  · by_cases e : j = i
    · subst e
      have : dj = d := by unfold dstOf at hj; rw [hi] at hj; simpa [hd] using hj.symm
      subst this
      rw [put_self (by rw [inv.size]; exact hdn)]
      exact hv
    · have hne : d ≠ dj := fun e' => hdist j e (by rw [e']; exact hj)
      rw [put_far hne]
      rw [getD_set_ne false (Ne.symm e)] at hl
      exact hV _ _ _ _ (inv.val j dj hj hl) hb
  · have hne : d ≠ t := fun e' => ht i (by unfold dstOf; rw [hi]; simp [hd, e'])
    rw [put_far hne]
    exact inv.old t ht
/-- The first n are listed. -/
def LT (m n : Nat) : Array Bool := (Array.range m).map fun i => decide (i < n)
theorem ups_split (listed : Array Bool) (n : Nat) : ups listed = (listed.toList.take n).count true + (listed.toList.drop n).count true := by
  unfold ups
  conv => lhs; rw [← List.take_append_drop n listed.toList]
  exact List.count_append
theorem ups_tail {listed : Array Bool} {n : Nat} (ht : ∀ t, n ≤ t → t < listed.size → listed.getD t true = false) : (listed.toList.drop n).count true = 0 := by
  rw [List.count_eq_zero]
  intro hm
  obtain ⟨k, hk, he⟩ := List.getElem_of_mem hm
  rw [List.getElem_drop] at he
  have hlt : n + k < listed.size := by simp at hk; omega
  have := ht (n + k) (by omega) hlt
  simp [hlt] at this
  simp at he
  rw [he] at this
  cases this
theorem ups_head {listed : Array Bool} {n : Nat} (hn : n ≤ listed.size) (ht : ∀ t, n ≤ t → t < listed.size → listed.getD t true = false) : ups listed = n ↔ ∀ i, i < n → listed.getD i false = true := by
  have hl : (listed.toList.take n).length = n := by simp; omega
  rw [ups_split listed n, ups_tail ht, Nat.add_zero]
  constructor
  · intro h i hi
    have hc := List.count_eq_length.1 (by rw [hl]; exact h : (listed.toList.take n).count true = (listed.toList.take n).length)
    have := hc ((listed.toList.take n)[i]'(by rw [hl]; exact hi)) (List.getElem_mem _)
    rw [List.getElem_take] at this
    have hlt : i < listed.size := by omega
    simp [hlt]
    simpa using this.symm
  · intro h
    have hc : (listed.toList.take n).count true = (listed.toList.take n).length := by
      refine List.count_eq_length.2 fun b hb => ?_
      obtain ⟨k, hk, he⟩ := List.getElem_of_mem hb
      rw [List.getElem_take] at he
      have hkn : k < n := by rw [hl] at hk; exact hk
      have hlt : k < listed.size := by omega
      have := h k hkn
      simp [hlt] at this
      simp at he
      rw [← he, this]
    rw [hc, hl]
theorem listed_LT {listed : Array Bool} {m n : Nat} (hm : listed.size = m) (hh : ∀ i, i < n → listed.getD i false = true) (ht : ∀ t, n ≤ t → t < m → listed.getD t true = false) : listed = LT m n := by
  apply Array.ext
  · simp [LT, hm]
  · intro i h1 h2
    simp only [LT, Array.getElem_map, Array.getElem_range]
    rcases Nat.lt_or_ge i n with h | h
    · have := hh i h
      simp [h1] at this
      rw [this, decide_eq_true h]
    · have := ht i h (by omega)
      simp [h1] at this
      rw [this, decide_eq_false (by omega)]
/-- An operation's turn, or that it is passed over (then it yields what is not laid down). -/
def EachTurn (P : Program) (ops : Array Oper) (V : Nat → Value → World → Prop) (i : Nat) (o : Oper) (a : Act) (W : World) : Prop :=
  EachDoes P ops V i o a W ∨ (Region.wanted o (yielded ops a.tmps) = false ∧ V i undef W)
theorem each_tail {Q : Exit → Act → World → Prop} {n : Nat} (hn : n < ops.size) (hB : eachTB ops n a0.tmps.size = true) (hs : Region.sinkB md ops n = true) (hc : Region.chainB md ops n = true) (hV : ∀ j v W W', V j v W → Below W.heap.size W W' → V j v W')
    (step : ∀ i o, i < n → ops[i]? = some o → ∀ a W, EachPre md ops V w0 a0 o a W → EachTurn P ops V i o a W)
    (fin : ∀ a W, Below w0.heap.size w0 W → a.tmps.size = a0.tmps.size → a.defers = a0.defers → (∀ j d, j < n → dstOf ops j = some d → V j (a.tmps.getD d undef) W) → (∀ t, (∀ j, dstOf ops j ≠ some t) → a.tmps.getD t undef = a0.tmps.getD t undef) → wpAny P md ops Q (ops.size - n) (LT ops.size n) a W) :
    ∀ (f : Nat) (listed : Array Bool) (a : Act) (W : World), ups listed + f = n → HeadInv md ops n listed → EachInv ops V w0 a0 listed a W → wpAny P md ops Q (f + (ops.size - n)) listed a W := by
  intro f
  induction f with
  | zero =>
    intro listed a W hu hinv inv
    have hall := (ups_head (by rw [hinv.size]; omega) (fun t h1 h2 => hinv.tail t h1 (by rw [hinv.size] at h2; exact h2))).1 (by omega)
    rw [listed_LT hinv.size hall hinv.tail, Nat.zero_add]
    exact fin a W inv.b inv.size inv.defers (fun j d hj hd => inv.val j d hd (hall j hj)) inv.old
  | succ f ih =>
    intro listed a W hu hinv inv
    have hnot : ¬ ∀ i, i < n → listed.getD i false = true := fun h => by
      have := (ups_head (by rw [hinv.size]; omega) (fun t h1 h2 => hinv.tail t h1 (by rw [hinv.size] at h2; exact h2))).2 h
      omega
    obtain ⟨i0, hi0, hun⟩ : ∃ i, i < n ∧ listed.getD i true = false := by
      apply Classical.byContradiction
      intro h
      apply hnot
      intro i hi
      cases hl : listed.getD i false with
      | true => rfl
      | false => exact absurd ⟨i, hi, getD_in (by rw [hinv.size]; omega) hl⟩ h
    rw [show f + 1 + (ops.size - n) = (f + (ops.size - n)) + 1 by omega]
    refine ⟨fun hr => ?_, fun i hi => ?_⟩
    · exfalso
      apply hnot
      intro i
      induction i using Nat.strongRecOn with
      | _ i ihh =>
        intro hin
        cases hl : listed.getD i false with
        | true => rfl
        | false =>
          exfalso
          have hio : ops[i]? = some ops[i] := Array.getElem?_eq_getElem (by omega)
          obtain ⟨d, hd, _, _, haf⟩ := eachTB_at hB hin hio
          have : i ∈ Region.ready md ops listed := mem_ready.2 ⟨getD_in (by rw [hinv.size]; omega) hl, _, hio, fun e he hb => ihh e.on (haf e he) (by have := haf e he; omega)⟩
          rw [hr] at this
          cases this
    · obtain ⟨hun2, o, ho, hall⟩ := mem_ready.1 hi
      have hin : i < n := by
        rcases Nat.lt_or_ge i n with h | h
        · exact h
        · exact absurd hi (tail_waits hs hc hn hinv _ i0 rfl hi0 hun i h)
      obtain ⟨d, hd, hdn, hdist, _⟩ := eachTB_at hB hin ho
      rcases step i o hin ho a W ⟨inv.b, inv.size, fun j dj hj hwait => inv.val j dj hj (by
        obtain ⟨e, he, hb⟩ := Array.any_eq_true'.1 hwait
        simp only [Bool.and_eq_true, beq_iff_eq] at hb
        rw [← hb.2]
        exact hall e he hb.1), inv.old⟩ with ⟨hw, hdo⟩ | ⟨hw, hsk⟩
      rotate_left
      · unfold wpOp
        simp only [ho, hw, Bool.false_eq_true, if_false]
        exact ih _ _ _ (by rw [ups_set hun2]; omega) (hinv.set hi hin) (inv.step hd hdn hdist hV ho hsk (Below.refl _ _))
      unfold wpOp
      simp only [ho, hw, if_true]
      refine .inl (Oper.wp_mono ?_ (hdo Q))
      rintro a' W' ⟨v, rfl, hv, hb⟩
      exact ih _ _ _ (by rw [ups_set hun2]; omega) (hinv.set hi hin) (inv.step hd hdn hdist hV ho hv hb)
theorem wp_region_each_tail {id : Nat} {Q : Exit → Act → World → Prop} {w : World} {l : List Oper} (n : Nat) (V : Nat → Value → World → Prop) (hm : P.follows .mixedOrders = true) (hB : (decide (n < l.length) && eachTB l.toArray n a0.tmps.size && Region.sinkB .any l.toArray n && Region.chainB .any l.toArray n && Region.seqB .any l.toArray (l.length - n) n (LT l.length n)) = true) (hV : ∀ j v W W', V j v W → Below W.heap.size W W' → V j v W')
    (turns : AllTurns (fun i o => ∀ a W, EachPre .any l.toArray V w.drew a0 o a W → EachTurn P l.toArray V i o a W) (l.take n) 0)
    (fin : ∀ a W, Below w.drew.heap.size w.drew W → a.tmps.size = a0.tmps.size → a.defers = a0.defers → (∀ j d, j < n → dstOf l.toArray j = some d → V j (a.tmps.getD d undef) W) → (∀ t, (∀ j, dstOf l.toArray j ≠ some t) → a.tmps.getD t undef = a0.tmps.getD t undef) → wpList P l.toArray Q (l.drop n) a W) :
    (Code.region id l.toArray true).wp P Q a0 w := by
  simp only [Bool.and_eq_true, decide_eq_true_eq] at hB
  obtain ⟨⟨⟨⟨h1, h2⟩, h3⟩, h4⟩, h5⟩ := hB
  have hsz : l.toArray.size = l.length := by simp
  have inv0 : HeadInv .any l.toArray n (Array.replicate l.toArray.size false) :=
    ⟨by simp, fun j oj _ hl => (by rw [getD_replicate_false] at hl; cases hl), fun t _ ht => getD_in (by simpa using ht) (getD_replicate_false _ _)⟩
  have H := each_tail (P := P) (md := .any) (Q := Q) (w0 := w.drew) (by rw [hsz]; exact h1) h2 h3 h4 hV (fun i o hin ho => by
    have := turns.at_ (i := i) (o := o) (by rw [List.getElem?_take]; simp [hin]; simpa using ho)
    rwa [Nat.zero_add] at this) (fun a W x1 x2 x3 x4 x5 => by
    have := wpAny_of_seq (P := P) (ops := l.toArray) (md := .any) (Q' := Q) (l.drop n) n (LT l.toArray.size n) a W (fun j => by simp [List.getElem?_drop]) (by rw [List.length_drop, hsz]; exact h5) (fin a W x1 x2 x3 x4 x5)
    rwa [List.length_drop, ← hsz] at this) n (Array.replicate l.toArray.size false) a0 w.drew (by simp [ups, List.count_replicate]) inv0 ⟨by simp, Below.refl _ _, rfl, rfl, fun j d _ hl => (by rw [getD_replicate_false] at hl; cases hl), fun _ _ => rfl⟩
  rw [show n + (l.toArray.size - n) = l.toArray.size by omega] at H
  exact wp_region_any hm H
theorem skip_bool {o : Oper} {a : Act} {g dg : Nat} {b : Bool} (h : o.guard = some (g, b)) (hd : dstOf ops g = some dg) (hs : dg < a.tmps.size) (hv : a.tmps.getD dg undef = .bool (!b)) : Region.wanted o (yielded ops a.tmps) = false := by
  have hv' : a.tmps[dg]? = some (.bool (!b)) := by
    rw [Array.getElem?_eq_getElem hs]
    simp [hs] at hv
    rw [hv]
  have hy : yielded ops a.tmps g = some (!b) := by
    unfold yielded
    unfold dstOf at hd
    rw [hd]
    simp [hv']
  cases b <;> simp [Region.wanted, h, hy]
theorem skip_undef {o : Oper} {a : Act} {g dg : Nat} {b : Bool} (h : o.guard = some (g, b)) (hd : dstOf ops g = some dg) (hs : dg < a.tmps.size) (hv : a.tmps.getD dg undef = undef) : Region.wanted o (yielded ops a.tmps) = false := by
  have hv' : a.tmps[dg]? = some undef := by
    rw [Array.getElem?_eq_getElem hs]
    simp [hs] at hv
    rw [hv]
  have hy : yielded ops a.tmps g = none := by
    unfold yielded
    unfold dstOf at hd
    rw [hd]
    simp [hv', undef]
  simp [Region.wanted, h, hy]
/-- What each operation yields, as a list. -/
def lstV (l : List (Value → World → Prop)) (j : Nat) (v : Value) (W : World) : Prop := match l[j]? with
  | some p => p v W
  | none => True
def Remains (p : Value → World → Prop) : Prop := ∀ v W W', p v W → Below W.heap.size W W' → p v W'
theorem stays_eq (p : Value → Prop) : Remains fun v _ => p v := fun _ _ _ h _ => h
theorem lstV_on {l : List (Value → World → Prop)} (h : ∀ p ∈ l, Remains p) : ∀ (j : Nat) (v : Value) (W W' : World), lstV l j v W → Below W.heap.size W W' → lstV l j v W' := by
  intro j v W W' hv hb
  unfold lstV at hv ⊢
  cases hj : l[j]? with
  | none => trivial
  | some p => rw [hj] at hv; exact h p (List.mem_of_getElem? hj) _ _ _ hv hb
end
end Go.Proofs.YtdeikpifflkabaaDoor
