/- What this text proves: what the laws of this layer that go through a list of inputs carry in memory from round to round. The conditions are that hashes have 32 bytes. -/
import Derived.Test.YtlhnhdkbfkbafaaDoorRoundWay
import Derived.Test.YtlhnhdkbfkbafaaDoorTwo
import Derived.Deep.RegionHeld3
import Derived.Deep.CutBlock
import Derived.Deep.DeepCutAuto
import Derived.Deep.QuietTactic
import Derived.BigQuiet
import Derived.Outline
namespace Go.Proofs.YtlhnhdkbfkbafaaDoor
open Go.RowKit
set_option linter.unusedVariables false
set_option linter.unusedSimpArgs false

/-- What holds at the head of a round: the state lies in block gs, w being the world at the start. -/
structure Lp (w : World) (gs : Nat) (s : St) (wr : World) : Prop where
  S : Bk wr gs 25 s.cells.toArray
  good : s.good
  N : None0 wr
  below : Below w.heap.size w wr
  le : w.heap.size ≤ gs
  pos : 0 < w.heap.size
section
variable {w wr : World} {gs : Nat} {s : St}
theorem Lp.start {w1 w7 : World} {z : Array Value} (hb : Below w.heap.size w w1) (hn : None0 w) (hgs : w1.heap.size = gs) (hm : Moves (fun k _ => k = gs) (w1.alloc (.cells z 25)) w7) (hs : Bk w7 gs 25 s.cells.toArray) (hg : s.good) : Lp w gs s w7 := by
  have h0 := hn.size
  have h1 := hb.size
  exact ⟨hs, hg, rangeAt_moves (World.rangeAt_alloc (rangeAt_below hn hb h0) _) hm (fun _ => by omega), (hb.alloc h1 _).trans (hm.to_below (by simp; omega) (fun k _ e => by omega)), by omega, h0⟩
theorem Lp.alloc (h : Lp w gs s wr) (o : Obj) : Lp w gs s (wr.alloc o) := ⟨h.S.alloc _, h.good, World.rangeAt_alloc h.N _, h.below.alloc h.below.size _, h.le, h.pos⟩
theorem Lp.drewN (h : Lp w gs s wr) (n : Nat) : Lp w gs s (wr.drewN n) := ⟨h.S.drewN n, h.good, h.N, below_drewN h.below n, h.le, h.pos⟩
theorem Lp.drew (h : Lp w gs s wr) : Lp w gs s wr.drew := ⟨h.S.drew, h.good, (World.rangeAt_drew _ _ _ _).2 h.N, h.below.drew, h.le, h.pos⟩
theorem Lp.moves {w' : World} {g : Nat} (h : Lp w gs s wr) (hm : Moves (fun k _ => k = g) wr w') (hg : w.heap.size ≤ g) (hne : g ≠ gs) : Lp w gs s w' :=
  ⟨hm.bk h.S (fun e => hne e.symm), h.good, rangeAt_moves h.N hm (fun _ => by have := h.pos; omega), h.below.trans (hm.to_below h.below.size (fun k _ e => by omega)), h.le, h.pos⟩
theorem Lp.set {p : Addr} {v : Value} (h : Lp w gs s wr) (hg : w.heap.size ≤ p.block) (hne : p.block ≠ gs) : Lp w gs s (wr.setCell p v) := h.moves (g := p.block) (Moves.setCell _ _ _ (fun _ _ => rfl)) hg hne
/-- Behind a step. -/
theorem Lp.step {w9 : World} {t : St} (h : Lp w gs s wr) (hb : Below wr.heap.size wr w9) (ht : t.good) : Lp w gs t (w9.setCells gs 0 t.cells) := by
  have hgl := h.S.lt
  have hS := h.S.below hb hgl
  have h1 := St.cells_len h.good
  have h2 := St.cells_len ht
  have hp := hS.puts t.cells s.cells 0 w9 (by omega)
  rw [put_all (by omega)] at hp
  have hz := h.below.size
  have hm := Moves.puts (X := fun k _ => k = gs) (g := gs) (fun _ => rfl) t.cells 0 w9
  exact ⟨hp, ht, rangeAt_moves (rangeAt_below h.N hb (by have := h.pos; omega)) hm (fun _ => by have := h.pos; have := h.le; omega), (h.below.trans (hb.mono hz)).trans (hm.to_below (Nat.le_trans hz hb.size) (fun k _ e => by have := h.le; omega)), h.le, h.pos⟩
theorem Lp.step_to {w9 wt : World} {t : St} (h : Lp w gs s wr) (hb : Below wr.heap.size wr w9) (hm : Moves (fun k _ => k = gs) w9 wt) (hs : Bk wt gs 25 t.cells.toArray) (ht : t.good) : Lp w gs t wt := by
  have hz := h.below.size
  exact ⟨hs, ht, rangeAt_moves (rangeAt_below h.N hb (by have := h.pos; omega)) hm (fun _ => by have := h.pos; have := h.le; omega), (h.below.trans (hb.mono hz)).trans (hm.to_below (Nat.le_trans hz hb.size) (fun k _ e => by have := h.le; omega)), h.le, h.pos⟩
theorem step_moves {w9 : World} {t : St} (hb : Below wr.heap.size wr w9) : Moves (fun k _ => k = gs) wr (w9.setCells gs 0 t.cells) :=
  (Moves.below _ hb (Nat.le_refl _)).trans_ (Moves.puts (X := fun k _ => k = gs) (g := gs) (fun _ => rfl) t.cells 0 w9) (fun _ _ _ h => h)
end
theorem stepF_good {s : St} {i : In} (hs : s.good) (hi : i.fits) : (stepF s i).1.good := by
  unfold stepF
  repeat' split
  all_goals first | exact hs | exact nowF_good hs hi | exact ⟨hs.locked, hs.valid, hs.block⟩ | exact ⟨hs.locked, hs.valid, hi.block⟩
theorem flat_len' (l : List In) (h : ∀ i ∈ l, i.fits) : (l.flatMap In.cells).length = l.length * 68 := by
  induction l with
  | nil => rfl
  | cons a l ih => rw [List.flatMap_cons, List.length_append, ih (fun i hi => h i (List.mem_cons_of_mem _ hi)), In.cells_len (h a (List.mem_cons_self ..)), List.length_cons]; omega
theorem flat_seg : ∀ (l : List In) (k : Nat) (i : In), (∀ i ∈ l, i.fits) → l[k]? = some i → ∀ j v, i.cells[j]? = some v → (l.flatMap In.cells)[k * 68 + j]? = some v
  | [], k, i, _, h, _, _, _ => by simp at h
  | a :: l, 0, i, hf, h, j, v, hj => by
    simp at h
    subst h
    rw [List.flatMap_cons, List.getElem?_append_left (by rw [Nat.zero_mul, Nat.zero_add]; exact (List.getElem?_eq_some_iff.1 hj).1)]
    simpa using hj
  | a :: l, k + 1, i, hf, h, j, v, hj => by
    rw [List.flatMap_cons, List.getElem?_append_right (by rw [In.cells_len (hf a (List.mem_cons_self ..))]; omega), In.cells_len (hf a (List.mem_cons_self ..)), show (k + 1) * 68 + j - 68 = k * 68 + j from by omega]
    exact flat_seg l k i (fun i hi => hf i (List.mem_cons_of_mem _ hi)) (by simpa using h) j v hj
/-- An operation whose guard says no, in a region that draws its order and leaves its world. -/
theorem wpStill_skip {P : Program} {ops : Array Oper} {rest : List Oper} {o : Oper} {a : Act} {w : World} {Q : Act → Prop} (hw : Region.wanted o (yielded ops a.tmps) = false) (h : wpStill P ops w Q rest (a.put o.dst undef)) : wpStill P ops w Q (o :: rest) a :=
  wpStill_step fun K hK => by
    rw [if_neg (by rw [hw]; decide)]
    exact hK _ h
def Out.zero : Out := ⟨0, 0, zeros, 0⟩
theorem Out.zero_len : Out.zero.cells.length = 35 := Out.cells_len zeros_len
theorem zero_out (w : World) : (zeroValue 45).run Tryd.prog w = .ok (.agg Out.zero.cells.toArray) w := by
  have h : (Tryd.prog.info? 45).map (·.zero) = some (some (.agg Out.zero.cells.toArray)) := by kernel_rfl
  cases hq : Tryd.prog.info? 45 with
  | none => rw [hq] at h; cases h
  | some i =>
    rw [hq] at h
    have h2 : i.zero = some (.agg Out.zero.cells.toArray) := by simpa using h
    simp [zeroValue, typeInfo, hq, h2, Sem.run_bind]
theorem Out.one_cells {o : Out} : o.cells.toArray.all (·.oneCell') = true := by
  refine all_oneCell_toArray fun v hv => ?_
  simp only [Out.cells, List.mem_cons, List.mem_append, List.not_mem_nil, or_false] at hv
  rcases hv with rfl | rfl | hv | rfl
  all_goals first | rfl | exact bts_one v hv
/-- What is said has hashes of 32 bytes. -/
theorem way_fits {s t : St} {i : In} {o : Out} (hs : s.good) (hi : i.fits) (h : Way s i (t, some o)) : o.block.length = 32 := by
  cases h
  case begin b v h0 h1 h2 h3 h4 h5 =>
    rcases h5 with ⟨_, rfl, _⟩ | ⟨_, rfl, _⟩
    · exact hs.valid
    · exact hi.own
  case prevote b h0 h1 h2 h3 =>
    rcases h3 with rfl | ⟨rfl, _⟩
    · exact zeros_len
    · exact hi.block
  all_goals first | exact zeros_len | exact hi.block
theorem drew_b {w w' : World} (h : Below w.drew.heap.size w.drew w') : Below w.heap.size w w' := Below.trans ((Below.refl _ _).drew) h
/-- The k-th input lies where it lies. -/
theorem in_at {w : World} {B : Nat} {A : Option Addr} {l : List In} (h : Sl w B 68 A l.length (l.flatMap In.cells)) (hf : ∀ i ∈ l, i.fits) {k : Nat} {i : In} (hk : l[k]? = some i) :
    ∃ b off, A = some ⟨b, off, none⟩ ∧ b < B ∧ w.rangeAt b (off + k * 68) i.cells := by
  obtain ⟨b, off, e, hb, hc⟩ := h.2 (by have := (List.getElem?_eq_some_iff.1 hk).1; omega)
  exact ⟨b, off, e, hb, fun j v hj => by rw [Nat.add_assoc]; exact hc _ _ (flat_seg l k i hf hk j v hj)⟩
/-- Fields of an input that lies in the midst of a block. -/
theorem range_part {w : World} {b o : Nat} {cs : List Value} (h : w.rangeAt b o cs) (pre vs post : List Value) (hcs : cs = pre ++ (vs ++ post)) : w.rangeAt b (o + pre.length) vs := fun j v hv => by
  have := h (pre.length + j) v (by
    rw [hcs, List.getElem?_append_right (by omega), show pre.length + j - pre.length = j by omega]
    rw [List.getElem?_append_left (List.getElem?_eq_some_iff.1 hv).1]
    exact hv)
  rwa [← Nat.add_assoc] at this
theorem in_block {w : World} {b o : Nat} {i : In} (h : w.rangeAt b o i.cells) : w.rangeAt b (o + 2) (bts i.block) := range_part h [.int .i64 i.kind, .int .i64 i.round] _ _ rfl
theorem in_good {w : World} {b o : Nat} {i : In} (h : w.rangeAt b o i.cells) (hi : i.fits) : w.cell? ⟨b, o + 35, none⟩ = some (.bool i.good) := by
  have := range_part h (.int .i64 i.kind :: .int .i64 i.round :: (bts i.block ++ [.int .i64 i.valid])) [.bool i.good] (bts i.own) (by simp [In.cells])
  have h35 := this 0 _ rfl
  simpa [bts_len, hi.block] using h35
theorem in_valid {w : World} {b o : Nat} {i : In} (h : w.rangeAt b o i.cells) (hi : i.fits) : w.cell? ⟨b, o + 34, none⟩ = some (.int .i64 i.valid) := by
  have := range_part h (.int .i64 i.kind :: .int .i64 i.round :: bts i.block) [.int .i64 i.valid] (.bool i.good :: bts i.own) (by simp [In.cells])
  have h34 := this 0 _ rfl
  simpa [bts_len, hi.block] using h34
theorem in_own {w : World} {b o : Nat} {i : In} (h : w.rangeAt b o i.cells) (hi : i.fits) : w.rangeAt b (o + 36) (bts i.own) := by
  have := range_part h (.int .i64 i.kind :: .int .i64 i.round :: (bts i.block ++ [.int .i64 i.valid, .bool i.good])) (bts i.own) [] (by simp [In.cells])
  simpa [bts_len, hi.block] using this
end Go.Proofs.YtlhnhdkbfkbafaaDoor
