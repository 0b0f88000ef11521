/- What this text proves: a law for a region that leaves its order open, whose first operation is a move that only the last ones look at, and whose others read, up to a chain at the end: one walk in the order of the text serves. The conditions are checked by the kernel. -/
import Derived.Test.YtdeikpifflkabaaDoorBase
import Derived.StillTailTactics
import Derived.Deep.RegionHeld3
namespace Go.Proofs.YtdeikpifflkabaaDoor
open Go.RowKit
set_option linter.unusedVariables false
set_option linter.unusedSimpArgs false

section
variable {P : Program} {md : Region.Mode}
/-- The operations, the n-th waiting for the first too. -/
def redo (ops : Array Oper) (n : Nat) : Array Oper := ops.mapIdx fun i o => if i = n then { o with after := o.after.push { on := 0, ground := .data } } else o
theorem redo_get (ops : Array Oper) (n i : Nat) : (redo ops n)[i]? = (ops[i]?).map fun o => if i = n then { o with after := o.after.push { on := 0, ground := .data } } else o := by
  simp [redo]
theorem redo_far (ops : Array Oper) (n i : Nat) (h : i ≠ n) : (redo ops n)[i]? = ops[i]? := by
  rw [redo_get]
  simp [h]
theorem redo_size (ops : Array Oper) (n : Nat) : (redo ops n).size = ops.size := by simp [redo]
theorem redo_yielded (ops : Array Oper) (n : Nat) (t : Array Value) : yielded (redo ops n) t = yielded ops t := by
  funext j
  unfold yielded
  rw [redo_get]
  cases h : ops[j]? with
  | none => rfl
  | some o =>
    by_cases e : j = n
    · simp [e]
    · simp [e]
theorem redo_ready (ops : Array Oper) (n : Nat) (listed : Array Bool) (h0 : listed.getD 0 false = true) : Region.ready md (redo ops n) listed = Region.ready md ops listed := by
  unfold Region.ready
  rw [redo_size]
  congr 1
  funext i
  rw [redo_get]
  cases h : ops[i]? with
  | none => rfl
  | some o =>
    by_cases e : i = n
    · have h0' : listed[0]?.getD false = true := by simpa using h0
      simp [e, h0']
    · simp [e]
theorem redo_op (ops : Array Oper) (n i : Nat) {Q : Exit → Act → World → Prop} {K : Act → World → Prop} {a : Act} {w : World} : wpOp P (redo ops n) Q i K a w = wpOp P ops Q i K a w := by
  unfold wpOp
  rw [redo_get, redo_yielded]
  cases h : ops[i]? with
  | none => rfl
  | some o =>
    by_cases e : i = n
    · simp only [e, if_true, Option.map_some]; rfl
    · simp only [e, if_false, Option.map_some]
theorem redo_any (ops : Array Oper) (n : Nat) {Q : Exit → Act → World → Prop} (h0 : 0 < ops.size) : ∀ (fuel : Nat) (listed : Array Bool) (a : Act) (w : World), listed.getD 0 false = true →
    wpAny P md (redo ops n) Q fuel listed a w → wpAny P md ops Q fuel listed a w
  | 0, listed, a, w, hl, h => by
    unfold wpAny at *
    rwa [redo_ready ops n listed hl] at h
  | fuel + 1, listed, a, w, hl, h => by
    unfold wpAny at *
    rw [redo_ready ops n listed hl] at h
    refine ⟨h.1, fun i hi => ?_⟩
    have h2 := h.2 i hi
    rw [redo_op] at h2
    exact wpOp_mono (fun a' w' h' => redo_any ops n h0 fuel _ a' w' (getD_set_true hl) h') h2
theorem redo_still (ops : Array Oper) (n : Nat) {w : World} {Q : Act → Prop} : ∀ (l : List Oper) (a : Act), wpStill P ops w Q l a → wpStill P (redo ops n) w Q l a
  | [], a, h => h
  | o :: r, a, h => by
    unfold wpStill at *
    rw [redo_yielded]
    have e : wpStill P (redo ops n) w Q r = wpStill P ops w Q r := by
      funext a'
      exact propext ⟨fun h' => redo_still_back ops n r a' h', fun h' => redo_still ops n r a' h'⟩
    rw [e]
    exact h
where
  redo_still_back (ops : Array Oper) (n : Nat) : ∀ (l : List Oper) (a : Act), wpStill P (redo ops n) w Q l a → wpStill P ops w Q l a
    | [], a, h => h
    | o :: r, a, h => by
      unfold wpStill at *
      rw [redo_yielded] at h
      have e : wpStill P (redo ops n) w Q r = wpStill P ops w Q r := by
        funext a'
        exact propext ⟨fun h' => redo_still_back ops n r a' h', fun h' => redo_still ops n r a' h'⟩
      rw [e] at h
      exact h
theorem redo_list (ops : Array Oper) (n : Nat) {Q : Exit → Act → World → Prop} : ∀ (l : List Oper), wpList P (redo ops n) Q l = wpList P ops Q l
  | [] => rfl
  | o :: r => by
    funext a w
    unfold wpList
    rw [redo_yielded, redo_list ops n r]
theorem redo_list' (ops : Array Oper) (n : Nat) {Q : Exit → Act → World → Prop} (o : Oper) (r : List Oper) (af : Array Edge) : wpList P (redo ops n) Q ({ o with after := af } :: r) = wpList P ops Q (o :: r) := by
  rw [redo_list]
  rfl
/-- What the kernel checks. -/
def moveTailB (l : List Oper) (n : Nat) : Bool :=
  decide (0 < n) && decide (n < l.length) && Region.lexTailB .any (redo l.toArray n) n && Region.noSelect l.toArray && Region.free .any l.toArray (Array.replicate l.toArray.size false) 0 &&
    (Region.ready .any l.toArray (Array.replicate l.toArray.size false)).contains 0 && (Region.ready .any (redo l.toArray n) (Array.replicate (redo l.toArray n).size false)).contains 0
theorem wp_move_tail0 {id : Nat} {Q : Exit → Act → World → Prop} {a : Act} {w : World} {o0 : Oper} {l : List Oper} (n : Nat) (hm : P.follows .mixedOrders = true) (x : Operand) (h0 : o0.op = .move x) (hg0 : o0.guard = none) (hB : moveTailB (o0 :: l) n = true)
    (hQ : ∀ v c a w, Q (.panic c) (a.put o0.dst v) w → Q (.panic c) a w)
    (h : ∀ w2, w2 = w.drew → wpStill P (o0 :: l).toArray w2 (fun a' => wpList P (o0 :: l).toArray Q ((o0 :: l).drop n) a' w2) ((o0 :: l).take n) a) : (Code.region id (o0 :: l).toArray true).wp P Q a w := by
  obtain ⟨L, hL⟩ : ∃ L, o0 :: l = L := ⟨_, rfl⟩
  have hL0 : L[0]? = some o0 := by rw [← hL]; rfl
  rw [hL] at hB h ⊢
  clear hL l
  simp only [moveTailB, Bool.and_eq_true, decide_eq_true_eq] at hB
  obtain ⟨⟨⟨⟨⟨⟨hn0, hn⟩, hlexT⟩, hsel0⟩, hfree⟩, hready⟩, hready'⟩ := hB
  simp only [Region.lexTailB, Bool.and_eq_true, decide_eq_true_eq] at hlexT
  obtain ⟨⟨⟨⟨hsel, hn'⟩, hs⟩, hc⟩, hlex⟩ := hlexT
  have hsz : (redo L.toArray n).size = L.length := by rw [redo_size]; simp
  have htl : (L.take n).length = n := by simp; omega
  have inv0 : HeadInv .any (redo L.toArray n) n (Array.replicate (redo L.toArray n).size false) :=
    ⟨by simp, fun j oj _ hl => (by rw [getD_replicate_false] at hl; cases hl), fun t _ ht => getD_in (by simpa using ht) (getD_replicate_false _ _)⟩
  have H := wpAnyL_lex (P := P) (w := { w with drawn := w.drawn + 1 }) (md := .any) (g := (redo L.toArray n).size - n) hsel hs hc hn' (L.take n) 0 _ a (fun j hj => by
    have hj' : j < n := by rw [htl] at hj; exact hj
    rw [Nat.zero_add, redo_far _ _ _ (by omega)]
    simp [hj']) (by simpa using htl) inv0 (by rw [htl]; exact hlex) (redo_still _ _ _ _ (h _ rfl))
  obtain ⟨on, hon⟩ : ∃ o, L[n]? = some o := ⟨_, List.getElem?_eq_getElem hn⟩
  have H2 := wpAny_of_head (Q' := Q) (g := (redo L.toArray n).size - n) (fun listed a' hL' => by
    have hd := List.drop_eq_getElem?_toList_append (l := L) (i := n)
    have hdrop : L.drop n = on :: L.drop (n + 1) := by rw [hd, hon]; rfl
    have h3 := hL'.2
    rw [hdrop, ← redo_list' L.toArray n on (L.drop (n + 1)) (on.after.push { on := 0, ground := .data })] at h3
    have hlen : ({ on with after := on.after.push { on := 0, ground := .data } } :: L.drop (n + 1)).length = (redo L.toArray n).size - n := by rw [hsz]; simp; omega
    have := wpAny_of_seq (P := P) (ops := redo L.toArray n) (md := .any) (Q' := Q) ({ on with after := on.after.push { on := 0, ground := .data } } :: L.drop (n + 1)) n listed a' { w with drawn := w.drawn + 1 } (fun j => by
      rw [redo_get]
      cases j with
      | zero => simp [hon]
      | succ j => simp [List.getElem?_drop]; rw [show n + 1 + j = n + (j + 1) by omega]) (by rw [hlen]; exact hL'.1) h3
    rwa [hlen] at this) _ _ _ H
  refine wp_region_any hm ?_
  rw [htl, show n + ((redo L.toArray n).size - n) = L.length by omega] at H2
  obtain ⟨m, hm'⟩ : ∃ m, L.length = m + 1 := ⟨L.length - 1, by omega⟩
  rw [hm'] at H2
  unfold wpAny at H2
  have H3 := H2.2 0 (by simpa using hready')
  rw [redo_op] at H3
  have hw : Region.wanted o0 (yielded L.toArray a.tmps) = true := by simp [Region.wanted, hg0]
  unfold wpOp at H3
  rw [show L.toArray[0]? = some o0 from by simpa using hL0] at H3
  simp only [hw, if_true] at H3
  have hrun : ∀ w, (execOp a.eval o0).run P w = .ok (.value (a.eval x)) w := fun w => BigFrame.run_move x h0 w
  have he : execOp a.eval o0 = pure (.value (a.eval x)) := by unfold execOp; rw [h0]
  have H4 : wpAny P .any (redo L.toArray n) Q m ((Array.replicate (redo L.toArray n).size false).setIfInBounds 0 true) (a.put o0.dst (a.eval x)) { w with drawn := w.drawn + 1 } := by
    rcases H3 with H3 | ⟨H3, _⟩
    · unfold Oper.wp at H3
      rw [hrun] at H3
      simpa [Oper.upon] using H3
    · exfalso
      have := H3.1
      rw [he] at this
      have e2 : (Sem.runT P (pure (Next.value (a.eval x)) : Sem Next) { w with drawn := w.drawn + 1 } #[]).2 = #[] := rfl
      rw [e2] at this
      simp at this
  have H5 := redo_any L.toArray n (by simp; omega) m _ _ _ (by simp [redo_size]; omega) H4
  rw [show L.toArray.size = m + 1 from by simpa using hm']
  refine wpAny_take (i := 0) (v := a.eval x) (by simpa using hL0) hsel0 ?_ ?_ (hQ _) (.inl ⟨hw, hrun⟩) ?_
  · rw [show m + 1 = L.toArray.size from by simpa using hm'.symm]; exact hfree
  · rw [show m + 1 = L.toArray.size from by simpa using hm'.symm]; exact hready
  · rw [redo_size] at H5
    rw [show m + 1 = L.toArray.size from by simpa using hm'.symm]; exact H5
/-- The same, whatever the region's end says of a panic. -/
theorem wp_move_tail {id : Nat} {Q : Exit → Act → World → Prop} {a : Act} {w : World} {o0 : Oper} {l : List Oper} (n : Nat) (hm : P.follows .mixedOrders = true) (x : Operand) (h0 : o0.op = .move x) (hg0 : o0.guard = none) (hB : moveTailB (o0 :: l) n = true)
    (h : ∀ (K : Exit → Act → World → Prop) w2, (∀ a w, Q .normal a w → K .normal a w) → w2 = w.drew → wpStill P (o0 :: l).toArray w2 (fun a' => wpList P (o0 :: l).toArray K ((o0 :: l).drop n) a' w2) ((o0 :: l).take n) a) : (Code.region id (o0 :: l).toArray true).wp P Q a w :=
  wp_region_noPanic (wp_move_tail0 n hm x h0 hg0 hB (fun _ _ _ _ h => h) fun w2 hw2 => h (NoPanic Q) w2 (fun _ _ h => h) hw2)
end
end Go.Proofs.YtdeikpifflkabaaDoor
