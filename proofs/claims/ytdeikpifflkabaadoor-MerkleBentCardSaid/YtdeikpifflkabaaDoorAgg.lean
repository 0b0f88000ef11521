/- What this text proves: laws on values of many cells (structs and arrays of bytes by value) in a walk: loads out of the midst of a block, comparisons, building, slices of one such value. The conditions are the laws' own premises. -/
import Derived.Test.YtdeikpifflkabaaDoorBase
import Derived.Test.YtdeikpifflkabaaDoorBytes
import Derived.Deep.MidRow
import Derived.Laws.StructEq
import Derived.Stop.BytesEq
import Derived.Still
import Derived.StillTail
import Derived.BigQuiet
import Derived.KernelRfl
namespace Go.Proofs.YtdeikpifflkabaaDoor
open Go.RowKit
set_option linter.unusedVariables false
set_option linter.unusedSimpArgs false

/-- The cells cs with vs put in from off on. -/
def put (cs : List Value) (off : Nat) (vs : List Value) : List Value := cs.take off ++ vs ++ cs.drop (off + vs.length)
theorem put_len {cs vs : List Value} {off : Nat} (h : off + vs.length ≤ cs.length) : (put cs off vs).length = cs.length := by
  simp [put]; omega
theorem put_nil (cs : List Value) (off : Nat) : put cs off [] = cs := by simp [put]
theorem put_cons {cs vs : List Value} {off : Nat} {v : Value} (h : off < cs.length) : put cs off (v :: vs) = put (cs.set off v) (off + 1) vs := by
  apply List.ext_getElem?
  intro j
  simp only [put, List.getElem?_append, List.length_append, List.length_take, List.length_cons, List.getElem?_take, List.getElem?_drop, List.length_set, List.getElem?_set]
  have e : min off cs.length = off := by omega
  have e2 : min (off + 1) cs.length = off + 1 := by omega
  rw [e, e2]
  by_cases h1 : j < off
  · rw [if_pos (by omega), if_pos h1, if_pos h1, if_pos (by omega), if_pos (by omega), if_pos (by omega), if_neg (by omega)]
  · by_cases h2 : j = off
    · subst h2
      simp [h]
      intro h; omega
    · by_cases h3 : j < off + (vs.length + 1)
      · rw [if_pos h3, if_neg h1, if_pos (by omega), if_neg (by omega)]
        obtain ⟨k, rfl⟩ : ∃ k, j = off + 1 + k := ⟨j - (off + 1), by omega⟩
        rw [show off + 1 + k - off = k + 1 by omega, show off + 1 + k - (off + 1) = k by omega, List.getElem?_cons_succ]
      · rw [if_neg (by omega), if_neg (by omega)]
        have e3 : off + (vs.length + 1) + (j - (off + (vs.length + 1))) = j := by omega
        have e4 : off + 1 + vs.length + (j - (off + 1 + vs.length)) = j := by omega
        rw [e3, e4, if_neg (by omega)]
theorem fold_put : ∀ (vs : List Value) (k off : Nat) (cs : List Value), off + k + vs.length ≤ cs.length →
    (vs.zipIdx k).foldl (fun (cs : Array Value) (x : Value × Nat) => cs.setIfInBounds (off + x.2) x.1) cs.toArray = (put cs (off + k) vs).toArray
  | [], k, off, cs, _ => by simp [put_nil]
  | v :: vs, k, off, cs, h => by
    simp only [List.length_cons] at h
    rw [List.zipIdx_cons, List.foldl_cons, put_cons (by omega)]
    have := fold_put vs (k + 1) off (cs.set (off + k) v) (by simp; omega)
    simpa [Nat.add_assoc] using this
theorem fold_put' (vs : Array Value) (off : Nat) (cs : List Value) (h : off + vs.size ≤ cs.length) :
    vs.zipIdx.foldl (fun (cs : Array Value) (x : Value × Nat) => cs.setIfInBounds (off + x.2) x.1) cs.toArray = (put cs off vs.toList).toArray := by
  have := fold_put vs.toList 0 off cs (by simpa using h)
  rw [Nat.add_zero] at this
  rw [← this, ← Array.foldl_toList, Array.toList_zipIdx]
theorem fill_nil (place : Nat → Option (Nat × Nat)) (cs : List Value) : Instr.fill place cs.toArray [] = some cs.toArray := rfl
theorem fill_cons {place : Nat → Option (Nat × Nat)} {cs : List Value} {i off n : Nat} {v : Value} {rest : List (Nat × Value)} (hp : place i = some (off, n)) (hv : v.cells.size = n) (h : off + n ≤ cs.length) :
    Instr.fill place cs.toArray ((i, v) :: rest) = Instr.fill place (put cs off v.cells.toList).toArray rest := by
  have e := fold_put' v.cells off cs (by omega)
  simp only [Instr.fill, hp]
  rw [if_neg (by simp [hv]; omega)]
  exact congrArg (fun c => Instr.fill place c rest) e

section
variable {P : Program} {ops : Array Oper} {rest : List Oper} {o : Oper} {a : Act} {w : World}

/-- A value, in a plain region. -/
theorem wpList_val {Q : Exit → Act → World → Prop} {v : Value} (hw : Region.wanted o (yielded ops a.tmps) = true) (hr : (execOp a.eval o).run P w = .ok (.value v) w)
    (h : wpList P ops Q rest (a.put o.dst v) w) : wpList P ops Q (o :: rest) a w :=
  BigFrame.wpList_want hw fun K hK => by
    unfold Oper.wp
    rw [hr]
    exact hK _ _ h
/-- A value and another world, in a plain region. -/
theorem wpList_new {Q : Exit → Act → World → Prop} {v : Value} {w' : World} (hw : Region.wanted o (yielded ops a.tmps) = true) (hr : (execOp a.eval o).run P w = .ok (.value v) w')
    (h : wpList P ops Q rest (a.put o.dst v) w') : wpList P ops Q (o :: rest) a w :=
  BigFrame.wpList_want hw fun K hK => by
    unfold Oper.wp
    rw [hr]
    exact hK _ _ h
/-- A value, in a region that draws its order and leaves its world. -/
theorem wpStill_val {Q : Act → Prop} {v : Value} (hw : Region.wanted o (yielded ops a.tmps) = true) (hr : (execOp a.eval o).run P w = .ok (.value v) w)
    (h : wpStill P ops w Q rest (a.put o.dst v)) : wpStill P ops w Q (o :: rest) a :=
  wpStill_step fun K hK => by
    rw [if_pos hw]
    unfold Oper.still
    rw [hr, Oper.stillUpon_value]
    exact hK _ h

theorem run_load_seg (ty : TypeId) (x : Operand) (ho : o.op = .load ty x) (b off : Nat) (hx : a.eval x = .pointer (some ⟨b, off, none⟩)) (vs : List Value) (hc : w.rangeAt b off vs) (n : Nat) (hn : vs.length = n)
    (d : TypeDesc) (hu : P.underlying ty = some d) (hd : d.isRow = true) (hi : (P.info? ty).map (·.size) = some n) : (execOp a.eval o).run P w = .ok (.value (.agg vs.toArray)) w := by
  unfold execOp
  simp only [ho, hx, Instr.loadAt, Instr.sureAddr, Sem.run_bind, Sem.run_pure, Result.andThen_ok, run_loadVar_mid w b off ty vs d hc hu hd (by rw [hi, hn])]

/-- Arrays of bytes, compared. -/
theorem run_bytes_eql (t e ty : TypeId) (x y : Operand) (ho : o.op = .binOp .eql t x y ty) (n : Nat) (ht : P.underlying t = some (.array n e)) (he : P.underlying e = some (.int .u8)) (hsz : ∀ w, (sizeOf e).run P w = .ok 1 w) (hm : P.eqGuardType P.depth t = false)
    (p q : List UInt8) (hx : a.eval x = .agg (bts p).toArray) (hy : a.eval y = .agg (bts q).toArray) (hp : p.length = n) (hq : q.length = n) :
    (execOp a.eval o).run P w = .ok (.value (.bool (p == q))) w := by
  have h : (binOp .eql t (.agg (bts p).toArray) (.agg (bts q).toArray)).run P w = .ok (.bool (p == q)) w := run_eql_bytes (P := P) w t e n ht he hsz p q hp hq
  unfold execOp
  simp only [ho, hx, hy, Sem.run_bind, Result.andThen_ok, run_eqGuard_agg (P := P) w .eql t x y _ _ hm, h, Sem.run_pure]
theorem run_bytes_neq (t e ty : TypeId) (x y : Operand) (ho : o.op = .binOp .neq t x y ty) (n : Nat) (ht : P.underlying t = some (.array n e)) (he : P.underlying e = some (.int .u8)) (hsz : ∀ w, (sizeOf e).run P w = .ok 1 w) (hm : P.eqGuardType P.depth t = false)
    (p q : List UInt8) (hx : a.eval x = .agg (bts p).toArray) (hy : a.eval y = .agg (bts q).toArray) (hp : p.length = n) (hq : q.length = n) :
    (execOp a.eval o).run P w = .ok (.value (.bool (!(p == q)))) w := by
  have h : (binOp .neq t (.agg (bts p).toArray) (.agg (bts q).toArray)).run P w = .ok (.bool (!(p == q))) w := by
    have h2 : (Op.equalIn 10000 t (.agg (bts p).toArray) (.agg (bts q).toArray)).run P w = .ok (p == q) w := run_equalIn_bytes (P := P) w 9998 t e n ht he hsz p q hp hq
    rw [run_neq_struct, h2]
    rfl
  unfold execOp
  simp only [ho, hx, hy, Sem.run_bind, Result.andThen_ok, run_eqGuard_agg (P := P) w .neq t x y _ _ hm, h, Sem.run_pure]

theorem run_build_at (t : TypeId) (l : List (Nat × Operand)) (ho : o.op = .build t l.toArray) (cells : List Value)
    (hb : P.built t (l.map fun p => (p.1, a.eval p.2)) = some cells.toArray) : (execOp a.eval o).run P w = .ok (.value (.agg cells.toArray)) w := by
  have hb' : P.built t (l.toArray.map fun (i, x) => (i, a.eval x)).toList = some cells.toArray := by
    rw [← hb]
    simp
  unfold execOp
  simp only [ho, Sem.run_bind, run_build w t _ cells.toArray hb', Result.andThen_ok, Sem.run_pure]

/-- A slice of one value. -/
theorem run_slice_one (t e : TypeId) (x : Operand) (ho : o.op = .buildSlice t 1 #[(0, x)]) (ht : P.underlying t = some (.slice e)) (cells : List Value) (hx : a.eval x = .agg cells.toArray) (n : Nat) (hn : cells.length = n) (h0 : 0 < n) (hs : n ≤ 16777216)
    (hsz : ∀ w, (sizeOf e).run P w = .ok n w) (z : Value) (hz : ∀ w, (zeroValue e).run P w = .ok z w) :
    (execOp a.eval o).run P w = .ok (.value (.slice (some ⟨w.heap.size, 0, none⟩) 1 1)) (w.alloc (.cells cells.toArray e)) := by
  have hf : Instr.fill (fun i => some (i * n, n)) (((List.range (1 * n)).map (fun i => z.cells[i % z.cells.size]!)).toArray) [(0, .agg cells.toArray)] = some cells.toArray := by
    rw [fill_cons (off := 0) (n := n) (by simp) (by simp [Value.cells, hn]) (by simp), fill_nil]
    congr 2
    simp [put, Value.cells, hn]
  have hr : ((Array.range (1 * n)).map (fun i => z.cells[i % z.cells.size]!)) = ((List.range (1 * n)).map (fun i => z.cells[i % z.cells.size]!)).toArray := by
    apply Array.ext'
    simp
  unfold execOp
  simp only [ho, Instr.buildSlice, Sem.run_bind, run_underlying ht, Result.andThen_ok, hsz, List.map_toArray, List.map_cons, List.map_nil, hx]
  rw [if_neg (by omega), if_neg (by omega)]
  simp only [Sem.run_bind, hz, Result.andThen_ok, Sem.run_pure, hr, hf]
  rfl
end

/-- Out of a block that is known whole. -/
theorem Bk.seg {w : World} {g : Nat} {t : TypeId} {cs : List Value} (h : Bk w g t cs.toArray) (off : Nat) (pre vs post : List Value) (hcs : cs = pre ++ (vs ++ post)) (hp : pre.length = off) : w.rangeAt g off vs := by
  intro j v hv
  rw [h.cell, List.getElem?_toArray, hcs, List.getElem?_append_right (by omega), show off + j - pre.length = j by omega]
  rw [List.getElem?_append_left (List.getElem?_eq_some_iff.1 hv).1]
  exact hv
theorem Bk.at_ {w : World} {g : Nat} {t : TypeId} {cs : List Value} (h : Bk w g t cs.toArray) (off : Nat) (pre post : List Value) (v : Value) (hcs : cs = pre ++ (v :: post)) (hp : pre.length = off) : w.cell? ⟨g, off, none⟩ = some v := by
  rw [h.cell, List.getElem?_toArray, hcs, List.getElem?_append_right (by omega), hp, Nat.sub_self]
  rfl
theorem Bk.list_set {w : World} {g : Nat} {t : TypeId} {cs : List Value} (h : Bk w g t cs.toArray) (off : Nat) (pre post : List Value) (v u : Value) (hcs : cs = pre ++ (v :: post)) (hp : pre.length = off) : Bk (w.setCell ⟨g, off, none⟩ u) g t (pre ++ (u :: post)).toArray := by
  have := h.set_ off u
  rw [hcs] at this
  have e : ((pre ++ (v :: post)).toArray.setIfInBounds off u) = (pre ++ (u :: post)).toArray := by
    apply Array.ext'
    rw [Array.toList_setIfInBounds]
    simp only [List.toList_toArray]
    rw [List.set_append, if_neg (by omega), hp, Nat.sub_self, List.set_cons_zero]
  rwa [e] at this
/-- Many cells put into a block that is known whole. -/
theorem Bk.puts {g : Nat} {t : TypeId} : ∀ (vs : List Value) (cs : List Value) (off : Nat) (w : World), Bk w g t cs.toArray → off + vs.length ≤ cs.length → Bk (w.setCells g off vs) g t (put cs off vs).toArray
  | [], cs, off, w, h, _ => by rw [put_nil]; exact h
  | v :: vs, cs, off, w, h, hl => by
    simp only [List.length_cons] at hl
    rw [put_cons (by omega), World.setCells]
    refine Bk.puts vs (cs.set off v) (off + 1) _ ?_ (by simp; omega)
    have := h.set_ off v
    have e : cs.toArray.setIfInBounds off v = (cs.set off v).toArray := by apply Array.ext'; simp
    rwa [e] at this
theorem Moves.puts {X : Nat → Obj → Prop} {g : Nat} (hX : ∀ o, X g o) : ∀ (vs : List Value) (off : Nat) (w : World), Moves (fun k _ => k = g) w (w.setCells g off vs)
  | [], off, w => Moves.refl _ _
  | v :: vs, off, w => by
    rw [World.setCells]
    exact (Moves.setCell w ⟨g, off, none⟩ v (fun _ _ => rfl)).trans_ (Moves.puts hX vs (off + 1) _) (fun _ _ _ h => h)
theorem size_puts : ∀ (vs : List Value) (off : Nat) (w : World) (g : Nat), (w.setCells g off vs).heap.size = w.heap.size
  | [], off, w, g => rfl
  | v :: vs, off, w, g => by rw [World.setCells, size_puts vs]; simp [World.setCell]
theorem put_mid (pre vs vs' post : List Value) (off : Nat) (hp : pre.length = off) (hl : vs.length = vs'.length) : put (pre ++ (vs ++ post)) off vs' = pre ++ (vs' ++ post) := by
  simp only [put]
  rw [List.take_append_of_le_length (by omega), List.take_of_length_le (by omega), List.drop_append, List.drop_of_length_le (by omega), List.nil_append, show off + vs'.length - pre.length = vs.length by omega, List.drop_left', List.append_assoc]
  rfl
theorem rangeAt_below {B : Nat} {w w' : World} {b off : Nat} {cs : List Value} (h : w.rangeAt b off cs) (hb : Below B w w') (hB : b < B) : w'.rangeAt b off cs := fun j v hv => (hb.cell (p := ⟨b, off + j, none⟩) hB).trans (h j v hv)
/-- A region that draws its order: its head only reads; the world behind the draw is a letter. -/
theorem wp_still_tail {P : Program} {id : Nat} {Q : Exit → Act → World → Prop} {a : Act} {w : World} {l : List Oper} (n : Nat) (hm : P.follows .mixedOrders = true) (hB : Region.lexTailB .any l.toArray n = true)
    (h : ∀ w2, w2 = w.drew → wpStill P l.toArray w2 (fun a' => wpList P l.toArray Q (l.drop n) a' w2) (l.take n) a) : (Code.region id l.toArray true).wp P Q a w :=
  wp_region_still_tail n hm hB (h _ rfl)
theorem bts_all {xs : List UInt8} : (bts xs).toArray.all (·.oneCell') = true := all_oneCell_toArray bts_one
/-- Many cells stored into a block that is known whole, in a plain region. -/
theorem wpList_puts {P : Program} {ops : Array Oper} {rest : List Oper} {o : Oper} {a : Act} {w : World} {Q : Exit → Act → World → Prop} (hw : Region.wanted o (yielded ops a.tmps) = true) (ty : TypeId) (x y : Operand) (ho : o.op = .store ty x y)
    (g off : Nat) (hx : a.eval x = .pointer (some ⟨g, off, none⟩)) (vs : List Value) (hy : a.eval y = .agg vs.toArray) (T : TypeId) (cs : List Value) (hg : Bk w g T cs.toArray) (n : Nat) (hn : vs.length = n) (hl : off + n ≤ cs.length) (hi : (P.info? ty).map (·.size) = some n) (h1 : vs.toArray.all (·.oneCell') = true)
    (h : ∀ w', Bk w' g T (put cs off vs).toArray → Moves (fun k _ => k = g) w w' → w'.heap.size = w.heap.size → wpList P ops Q rest (a.put o.dst undef) w') : wpList P ops Q (o :: rest) a w := by
  have ht : w.there g off vs.toArray.size := fun j hj => by
    have hj' : j < vs.length := by simpa using hj
    refine ⟨?_, hg.frozen _⟩
    rw [hg.cell, List.getElem?_toArray, List.getElem?_eq_getElem (by omega)]
    rfl
  refine BigFrame.wpList_want hw fun K hK => wp_store_mid ty x y ho g off vs.toArray hx hy ht (by simpa [hn] using hi) h1 (hK _ _ ?_)
  have hm := Moves.puts (X := fun k _ => k = g) (g := g) (fun _ => rfl) vs off w
  refine h _ (Bk.puts vs cs off w hg (by omega)) hm ?_
  exact size_puts vs off w g
end Go.Proofs.YtdeikpifflkabaaDoor
