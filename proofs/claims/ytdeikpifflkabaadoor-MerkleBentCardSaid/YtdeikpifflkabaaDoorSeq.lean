/- What this text proves: one law for the statement 'for x := range f { .. }' where the iterator f writes cells of its own between two rounds: what the iterator writes is told by a predicate X on blocks, and the caller's invariant must not speak of such blocks. No condition beside the law's own premises. -/
import Derived.Test.YtdeikpifflkabaaDoorBase
import Derived.RangeFuncNested
import Derived.RangeFuncBound
import Derived.RangeFuncCalls
import Derived.RangeFuncLeaves
import Derived.Shelf.RegionOpen
import Derived.OwnWalkIn
import Derived.TacticsInMore
import Derived.LoopNIn
import Derived.LoopIn
namespace Go.Proofs.YtdeikpifflkabaaDoor
open Go.RowKit
set_option linter.unusedVariables false
set_option linter.unusedSimpArgs false

/-- From W to W' new blocks have come, and of the old ones only such have turned as X names. -/
structure Moves (X : Nat → Obj → Prop) (W W' : World) : Prop where
  os : W'.os = W.os
  tape : W'.tape = W.tape
  output : W'.output = W.output
  size : W.heap.size ≤ W'.heap.size
  block : ∀ k o, W.heap[k]? = some o → ¬ X k o → W'.heap[k]? = some o

section
variable {X X' : Nat → Obj → Prop} {W W' : World}
theorem Moves.refl (X : Nat → Obj → Prop) (W : World) : Moves X W W := ⟨rfl, rfl, rfl, Nat.le_refl _, fun _ _ h _ => h⟩
theorem Moves.more (h : Moves X W W') (hx : ∀ k o, X k o → X' k o) : Moves X' W W' := ⟨h.os, h.tape, h.output, h.size, fun k o hk hn => h.block k o hk (fun e => hn (hx k o e))⟩
theorem Moves.trans_ {W'' : World} (h : Moves X W W') (h' : Moves X W' W'') (hx : ∀ k o o', X k o → X k o') : Moves X W W'' :=
  ⟨h'.os.trans h.os, h'.tape.trans h.tape, h'.output.trans h.output, Nat.le_trans h.size h'.size, fun k o hk hn => h'.block k o (h.block k o hk hn) hn⟩
theorem Moves.grown {row : Option Nat} (hg : W.grownBy W' row) (hx : ∀ k o, some k = row → X k o) : Moves X W W' :=
  ⟨hg.os, hg.tape, hg.output, hg.size, fun k o hk hn => (hg.block k (Array.getElem?_eq_some_iff.1 hk).1 (fun e => hn (hx k o e))).trans hk⟩
theorem Moves.alloc (X : Nat → Obj → Prop) (W : World) (o : Obj) : Moves X W (W.alloc o) :=
  ⟨rfl, rfl, rfl, by simp, fun k o' hk _ => (Below.heap_alloc W o k (Array.getElem?_eq_some_iff.1 hk).1).trans hk⟩
theorem Moves.drew (X : Nat → Obj → Prop) (W : World) : Moves X W W.drew := ⟨rfl, rfl, rfl, Nat.le_refl _, fun _ _ h _ => h⟩
theorem Moves.drewN (X : Nat → Obj → Prop) (W : World) (n : Nat) : Moves X W (W.drewN n) := ⟨rfl, rfl, rfl, Nat.le_refl _, fun _ _ h _ => h⟩
theorem Moves.below (X : Nat → Obj → Prop) {B : Nat} (h : Below B W W') (hB : W.heap.size ≤ B) : Moves X W W' :=
  ⟨h.os, h.tape, h.output, h.size, fun k o hk _ => (h.block k (Nat.lt_of_lt_of_le (Array.getElem?_eq_some_iff.1 hk).1 hB)).trans hk⟩
theorem Moves.setCell (W : World) (p : Addr) (v : Value) (hx : ∀ o, W.heap[p.block]? = some o → X p.block o) : Moves X W (W.setCell p v) :=
  ⟨rfl, rfl, rfl, by simp [World.setCell], fun k _ hk hn => by
    by_cases e : k = p.block
    · subst e; exact absurd (hx _ hk) hn
    · exact (Below.heap_setCell W p v k e).trans hk⟩
theorem Moves.putObj (W : World) (l : Nat) (o' : Obj) (hx : ∀ o, W.heap[l]? = some o → X l o) : Moves X W (W.putObj l o') :=
  ⟨rfl, rfl, rfl, by simp, fun k _ hk hn => by
    by_cases e : k = l
    · subst e; exact absurd (hx _ hk) hn
    · exact (World.putObj_heap_other e).trans hk⟩
theorem Moves.cell (h : Moves X W W') {p : Addr} {v : Value} (hc : W.cell? p = some v) (hx : ∀ o, W.heap[p.block]? = some o → ¬ X p.block o) : W'.cell? p = some v := by
  obtain ⟨o, ho, _⟩ := cells_of_cell hc
  exact (World.cell?_of_block ((h.block _ o ho (hx o ho)).trans ho.symm)).trans hc
theorem Moves.frozen (h : Moves X W W') {p : Addr} {v : Value} (hc : W.cell? p = some v) (hx : ∀ o, W.heap[p.block]? = some o → ¬ X p.block o) : W'.frozen? p = W.frozen? p := by
  obtain ⟨o, ho, _⟩ := cells_of_cell hc
  exact World.frozen?_of_block ((h.block _ o ho (hx o ho)).trans ho.symm)
theorem Moves.to_below (h : Moves X W W') {B : Nat} (hB : B ≤ W.heap.size) (hx : ∀ k o, X k o → B ≤ k) : Below B W W' :=
  ⟨h.os, h.tape, h.output, h.size, fun k hk => by
    obtain ⟨o, ho⟩ : ∃ o, W.heap[k]? = some o := ⟨_, Array.getElem?_eq_getElem (by omega)⟩
    exact (h.block k o ho (fun e => by have := hx k o e; omega)).trans ho.symm⟩
theorem Moves.bk (h : Moves X W W') {g : Nat} {t : TypeId} {cs : Array Value} (hb : Bk W g t cs) (hx : ¬ X g (.cells cs t (0, 0))) : Bk W' g t cs := h.block g _ hb hx
theorem Moves.own (h : Moves X W W') {base : Nat} {e : TypeId} {sz n : Nat} {v : Value} {xs : List Value} (ho : W.ownsRow base e sz v n xs) (hx : ∀ g cs, base ≤ g → ¬ X g (.cells cs e (0, 0))) : W'.ownsRow base e sz v n xs := by
  refine ⟨ho.1, ?_⟩
  rcases ho.2 with hn | ⟨g, cap, cur, rfl, hb, hg, rest⟩
  · exact .inl hn
  · exact .inr ⟨g, cap, cur, rfl, hb, h.block g _ hg (hx g cur hb), rest⟩
end

theorem Sl.moves {X : Nat → Obj → Prop} {n sz B : Nat} {W W' : World} {A : Option Addr} {cs : List Value} (h : Sl W B sz A n cs) (hm : Moves X W W') (hx : ∀ k o, X k o → B ≤ k) : Sl W' B sz A n cs :=
  ⟨h.1, fun hn => by
    obtain ⟨b, off, e, hb, hc⟩ := h.2 hn
    exact ⟨b, off, e, hb, fun j u hu => hm.cell (hc j u hu) (fun o _ hX => by have := hx _ _ hX; simp at this; omega)⟩⟩

/-- What is said of a world abides where blocks turn that X names. -/
def Stays {β : Type} (X : Nat → Obj → Prop) (I : β → World → Prop) : Prop := ∀ s W W', I s W → Moves X W W' → I s W'

/-- An iterator's contract: whatever the caller's J, Jx, if they stay where blocks of X turn. -/
def SeqJ {α : Type} (n : Nat) (P : Program) (g : Nat) (lb : Array Value) (encs : α → Array Value) (X : Nat → Obj → Prop) (Kp : World → World → Prop) (S Sp : List α → Prop) (Bd : Nat → Prop) (w : World) : Prop :=
  ∀ (l : Nat) (J Jx : List α → World → Prop) (W : World), Moves (fun _ _ => False) w W → w.heap.size ≤ l → l < W.heap.size → Stays X J → Stays X Jx → (∀ pre W1, J pre W1 → Bd pre.length) →
    (∀ pre x W1, J pre W1 → Sp (pre ++ [x]) → YieldAt Fence.wide (n - 1) P l (encs x) W1 fun e W' =>
      (e = .returned (.bool true) ∧ J (pre ++ [x]) W' ∧ Kp W1 W') ∨ (e = .returned (.bool false) ∧ Jx (pre ++ [x]) W')) →
    J [] W →
    CallsIn Fence.wide n P g (#[.func (.yield l) #[] #[]] ++ lb) W fun e W' => (∃ v, e = .returned v) ∧ ((∃ xs, S xs ∧ J xs W') ∨ (∃ pre, Sp pre ∧ Jx pre W'))

variable {n : Nat} {P : Program} {w : World}

/-- The law. The caller's I must stay where blocks of X turn, and where a block from the loop's own beginning on turns that holds no cells. -/
theorem range_J {α : Type} {g : Operand} {ps : Array Tmp} {assign body : Code} {Q : Exit → Act → World → Prop} {a : Act}
    {gf : Nat} {lb : Array Value} (hg : a.eval g = .func (.func gf) #[] lb) (eg : ∀ args w, (callFunc gf args).run P w = .ok (.enter gf args) w)
    {encs : α → Array Value} {X : Nat → Obj → Prop} {Kp : World → World → Prop} {S Sp : List α → Prop} {Bd : Nat → Prop} (hseq : SeqJ (n - 1) P gf lb encs X Kp S Sp Bd w)
    (hX : ∀ k o, X k o → o.isCells = true)
    (hKt : ∀ {A B C : World}, Kp A B → Kp B C → Kp A C) (hKb : ∀ (W : World) (l : Nat) (o o' : Obj), w.heap.size ≤ l → W.heap[l]? = some o → o.isCells = false → Kp W (W.putObj l o')) (hps : ∀ x, (encs x).size = ps.size)
    (I : List α → World → Prop) (Ix : Code → List α → World → Prop) (hI : Stays (fun k o => X k o ∨ (w.heap.size ≤ k ∧ o.isCells = false)) I) (hIx : ∀ c, Stays (fun k o => X k o ∨ (w.heap.size ≤ k ∧ o.isCells = false)) (Ix c)) (h0 : I [] w) (hBd : ∀ pre W, I pre W → Bd pre.length)
    (hround : ∀ (l : Nat) (pre : List α) (x : α) (W : World), w.heap.size ≤ l → I pre W → Sp (pre ++ [x]) →
      assign.wpIn (Fence.wide.inRound l) (n - 1 - 1) P (Exit.then (fun a' W' => KeepsFrom w.heap.size W W' ∧ Kp W W' ∧ I pre W' ∧
        ∀ W2, I pre W2 → Moves (fun k o => w.heap.size ≤ k ∧ o.isCells = false) W' W2 → (∃ r, W2.heap[l]? = some (.loop r)) → body.wpIn (Fence.wide.inRound l) (n - 1 - 1) P (ownPostG w.heap.size Kp I Ix (pre ++ [x]) W2) a' W2) (fun _ _ _ => False))
        { tmps := (ps.zip (encs x)).foldl (fun t (p, v) => t.setIfInBounds p v) a.tmps, defers := [] } W)
    (hdone : ∀ (D : Nat) (xs : List α) (W : World), w.heap.size ≤ D → S xs → I xs W → W.heap[D]? = some (.deferred (some [])) → Q .normal { a with defers := { target := .collected D, args := #[] } :: a.defers } W)
    (hstop : ∀ (D : Nat) (c : Code) (pre : List α) (W : World), w.heap.size ≤ D → Sp pre → Ix c pre W → W.heap[D]? = some (.deferred (some [])) → c.wpIn Fence.wide n P Q { a with defers := { target := .collected D, args := #[] } :: a.defers } W) :
    (Code.rangeFunc g ps assign body).wpIn Fence.wide n P Q a w := by
  refine wpIn_rangeFunc ?_
  intro fn hfn
  rw [show Fence.wide.round = none from rfl]
  obtain ⟨rec, hrec⟩ : ∃ rec : LoopState → Option Code → Loop, rec = fun st pe => { state := st, pending := pe, fn, tmps := a.tmps, params := ps, assign, body, defers := w.heap.size } := ⟨_, rfl⟩
  obtain ⟨W1, hW1⟩ : ∃ W1, (w.alloc (.deferred (some []))).alloc (.loop (rec .ready none)) = W1 := ⟨_, rfl⟩
  have hL1 : W1.heap[w.heap.size + 1]? = some (.loop (rec .ready none)) := by
    rw [← hW1]; have := World.alloc_heap_new (w.alloc (.deferred (some []))) (.loop (rec .ready none)); rwa [World.size_alloc] at this
  have hK1 : W1.heap[w.heap.size]? = some (.deferred (some [])) := by
    rw [← hW1]; exact (Below.heap_alloc _ _ _ (by simp)).trans (World.alloc_heap_new w _)
  have hm1 : Moves (fun _ _ => False) w W1 := by
    rw [← hW1]; exact Moves.below _ (((Below.refl _ w).alloc (Nat.le_refl _) _).alloc (by simp) _) (Nat.le_refl _)
  have hI1 : I [] W1 := hI _ _ _ h0 (hm1.more fun _ _ h => h.elim)
  have hput : ∀ {β : Type} {J : β → World → Prop}, Stays (fun k o => X k o ∨ (w.heap.size ≤ k ∧ o.isCells = false)) J → ∀ {s : β} {W : World} {l : Nat} {o : Obj} (o' : Obj), J s W → w.heap.size ≤ l → W.heap[l]? = some o → o.isCells = false → J s (W.putObj l o') :=
    by
    intro β J hJ s W l o o' hs hl ho hc
    exact hJ _ _ _ hs (Moves.putObj _ _ _ (fun o1 h1 => by rw [ho] at h1; cases h1; exact .inr ⟨hl, hc⟩))
  refine ⟨w.heap.size + 1, [{ target := .collected w.heap.size, args := #[] }], W1, { target := .fn (.func gf) lb, args := #[.func (.yield (w.heap.size + 1)) #[] #[]] }, W1, gf,
    #[.func (.yield (w.heap.size + 1)) #[] #[]] ++ lb, W1, ?_, ?_, ?_, ?_, (fun h => by simp [Fence.wide] at h), ?_⟩
  · rw [← hW1, hrec]; exact run_enterLoop_outer _ _ _ _ _
  · simp only [resolve, hg]
    simp [go_sem]
  · intro f' _; trivial
  · simp [invoke, go_sem, eg]
  · refine (hseq (w.heap.size + 1)
      (fun pre W => I pre W ∧ W.heap[w.heap.size + 1]? = some (.loop (rec .ready none)) ∧ W.heap[w.heap.size]? = some (.deferred (some [])))
      (fun pre W => ∃ c, Ix c pre W ∧ W.heap[w.heap.size + 1]? = some (.loop (rec .done (some c))) ∧ W.heap[w.heap.size]? = some (.deferred (some [])))
      W1 hm1 (by omega) (by have := (Array.getElem?_eq_some_iff.1 hL1).1; exact this)
      (fun s A B hs hm => ⟨hI s A B hs.1 (hm.more fun _ _ h => .inl h), hm.block _ _ hs.2.1 (fun h => by have := hX _ _ h; cases this), hm.block _ _ hs.2.2 (fun h => by have := hX _ _ h; cases this)⟩)
      (fun s A B hs hm => by
        obtain ⟨c, hc, hl, hk⟩ := hs
        exact ⟨c, hIx c s A B hc (hm.more fun _ _ h => .inl h), hm.block _ _ hl (fun h => by have := hX _ _ h; cases this), hm.block _ _ hk (fun h => by have := hX _ _ h; cases this)⟩)
      (fun pre W1 hj => hBd pre W1 hj.1) ?_ ⟨hI1, hL1, hK1⟩).mono ?_
    · rintro pre x W ⟨hi, hl, hk⟩ hlen
      have hlt : w.heap.size + 1 < W.heap.size := (Array.getElem?_eq_some_iff.1 hl).1
      have hy := run_yield (P := P) (args := encs x) hl (by rw [hrec]; exact hps x)
      rw [hrec] at hy
      refine ⟨fn, _, assign, body, hy, roundIn_of_wpIn hfn (wpIn_mono (hround _ pre x W (by omega) hi hlen) ?_)⟩
      clear hy
      rintro e a' Wa he
      cases e with
      | exit id => exact he.elim
      | goto t => exact he.elim
      | ret => exact he.elim
      | panic ch => exact he.elim
      | outgrown => exact he.elim
      | normal =>
      obtain ⟨hkfa, hkpa, hia, hbody⟩ := he
      replace hl := hkfa.same _ _ (by omega) hl rfl
      replace hk := hkfa.same _ _ (Nat.le_refl _) hk rfl
      replace hlt : w.heap.size + 1 < Wa.heap.size := (Array.getElem?_eq_some_iff.1 hl).1
      replace hi := hia
      clear hia
      revert hkpa hkfa
      generalize W = Wb
      intro hkfa hkpa
      obtain ⟨W, rfl⟩ : ∃ W, W = Wa := ⟨_, rfl⟩
      refine ⟨_, run_beginRound hl (by rw [hrec]), ?_⟩
      have hl2 : (W.putObj (w.heap.size + 1) (.loop { rec .ready none with state := .busy })).heap[w.heap.size + 1]? = some (.loop { rec .ready none with state := .busy }) := World.putObj_heap_same hlt
      have hk2 : (W.putObj (w.heap.size + 1) (.loop { rec .ready none with state := .busy })).heap[w.heap.size]? = some (.deferred (some [])) := (World.putObj_heap_other (by omega)).trans hk
      have hw2 : Kp W (W.putObj (w.heap.size + 1) (.loop { rec .ready none with state := .busy })) := hKb _ _ _ _ (by omega) hl rfl
      refine wpIn_mono (hbody _ (hput hI _ hi (by omega) hl rfl) (Moves.putObj _ _ _ (fun o1 h1 => by rw [hl] at h1; cases h1; exact ⟨by omega, rfl⟩)) ⟨_, hl2⟩) ?_
      have fin : ∀ (jump : Option Code) (W3 : World), KeepsFrom w.heap.size (W.putObj (w.heap.size + 1) (.loop { rec .ready none with state := .busy })) W3 →
          (Instr.endRound (w.heap.size + 1) jump).run P W3 = .ok (.bool jump.isNone) (W3.putObj (w.heap.size + 1) (.loop (rec (if jump.isNone then .ready else .done) jump))) ∧
          W3.heap[w.heap.size + 1]? = some (.loop { rec .ready none with state := .busy }) ∧
          (W3.putObj (w.heap.size + 1) (.loop (rec (if jump.isNone then .ready else .done) jump))).heap[w.heap.size + 1]? = some (.loop (rec (if jump.isNone then .ready else .done) jump)) ∧
          (W3.putObj (w.heap.size + 1) (.loop (rec (if jump.isNone then .ready else .done) jump))).heap[w.heap.size]? = some (.deferred (some [])) := fun jump W3 hk3 => by
        have hl3 := hk3.same _ _ (by omega) hl2 rfl
        have := run_endRound (P := P) jump hl3
        rw [hrec] at this ⊢
        exact ⟨this, by rw [hrec] at hl3; exact hl3, World.putObj_heap_same (Array.getElem?_eq_some_iff.1 hl3).1, (World.putObj_heap_other (by omega)).trans (hk3.same _ _ (Nat.le_refl _) hk2 rfl)⟩
      rintro e a3 W3 hp
      cases e with
      | normal =>
        obtain ⟨hk3, hkp3, hi3⟩ := hp
        obtain ⟨hr, hl3, hl4, hk4⟩ := fin none W3 hk3
        exact ⟨_, _, hr, .inl ⟨rfl, ⟨hput hI _ hi3 (by omega) hl3 rfl, hl4, hk4⟩, hKt hkpa (hKt (hKt hw2 hkp3) (hKb _ _ _ _ (by omega) hl3 rfl))⟩⟩
      | ret =>
        obtain ⟨hk3, hi3⟩ := hp
        obtain ⟨hr, hl3, hl4, hk4⟩ := fin (some .ret) W3 hk3
        exact ⟨_, _, hr, .inr ⟨rfl, .ret, hput (hIx _) _ hi3 (by omega) hl3 rfl, hl4, hk4⟩⟩
      | exit id =>
        obtain ⟨hk3, hi3⟩ := hp
        obtain ⟨hr, hl3, hl4, hk4⟩ := fin (some (.exit id)) W3 hk3
        exact ⟨_, _, hr, .inr ⟨rfl, .exit id, hput (hIx _) _ hi3 (by omega) hl3 rfl, hl4, hk4⟩⟩
      | goto t =>
        obtain ⟨hk3, hi3⟩ := hp
        obtain ⟨hr, hl3, hl4, hk4⟩ := fin (some (.goto t)) W3 hk3
        exact ⟨_, _, hr, .inr ⟨rfl, .goto t, hput (hIx _) _ hi3 (by omega) hl3 rfl, hl4, hk4⟩⟩
      | panic ch => exact hp.elim
      | outgrown => exact hp.elim
    · rintro e W2 ⟨⟨v, rfl⟩, (⟨xs, hS, hi, hl, hk⟩ | ⟨pre, hSp, c, hi, hl, hk⟩)⟩
      · exact ⟨none, _, by have := run_endLoop (P := P) hl (by rw [hrec]; simp); rw [hrec] at this; exact this, hdone _ xs _ (Nat.le_refl _) hS (hput hI _ hi (by omega) hl rfl) ((World.putObj_heap_other (by omega)).trans hk)⟩
      · exact ⟨some c, _, by have := run_endLoop (P := P) hl (by rw [hrec]; simp); rw [hrec] at this; exact this, hstop _ c pre _ (Nat.le_refl _) hSp (hput (hIx c) _ hi (by omega) hl rfl) ((World.putObj_heap_other (by omega)).trans hk)⟩

/-- What a round's body leaves for the iterator: the blocks below n₀, and those whose cells are of a type of T. -/
structure Leaves (n₀ : Nat) (T : TypeId → Prop) (W W' : World) : Prop where
  size : W.heap.size ≤ W'.heap.size
  block : ∀ k o, W.heap[k]? = some o → (k < n₀ ∨ ∃ c e f, o = .cells c e f ∧ T e) → W'.heap[k]? = some o
section
variable {n₀ : Nat} {T : TypeId → Prop} {W W' W'' : World}
theorem Leaves.refl (n₀ : Nat) (T : TypeId → Prop) (W : World) : Leaves n₀ T W W := ⟨Nat.le_refl _, fun _ _ h _ => h⟩
theorem Leaves.trans (h : Leaves n₀ T W W') (h' : Leaves n₀ T W' W'') : Leaves n₀ T W W'' := ⟨Nat.le_trans h.size h'.size, fun k o hk hx => h'.block k o (h.block k o hk hx) hx⟩
theorem Leaves.alloc (h : Leaves n₀ T W W') (o : Obj) : Leaves n₀ T W (W'.alloc o) :=
  h.trans ⟨by simp, fun k o' hk _ => (Below.heap_alloc W' o k (Array.getElem?_eq_some_iff.1 hk).1).trans hk⟩
theorem Leaves.drew (h : Leaves n₀ T W W') : Leaves n₀ T W W'.drew := ⟨h.size, h.block⟩
theorem Leaves.drewN (h : Leaves n₀ T W W') (n : Nat) : Leaves n₀ T W (W'.drewN n) := ⟨h.size, h.block⟩
theorem Leaves.below {B : Nat} (h : Leaves n₀ T W W') (hb : Below B W' W'') (hB : W'.heap.size ≤ B) : Leaves n₀ T W W'' :=
  h.trans ⟨hb.size, fun k o hk _ => (hb.block k (Nat.lt_of_lt_of_le (Array.getElem?_eq_some_iff.1 hk).1 hB)).trans hk⟩
theorem Leaves.setCell (h : Leaves n₀ T W W') {p : Addr} {t : TypeId} {cs : Array Value} {fz : Nat × Nat} (v : Value) (hp : n₀ ≤ p.block) (ho : W'.heap[p.block]? = some (.cells cs t fz)) (ht : ¬ T t) : Leaves n₀ T W (W'.setCell p v) :=
  h.trans ⟨by simp [World.setCell], fun k _ hk hx => by
    by_cases e : k = p.block
    · subst e
      rw [ho] at hk
      cases hk
      rcases hx with hx | ⟨c, e, f, he, hT⟩
      · omega
      · cases he; exact absurd hT ht
    · exact (Below.heap_setCell W' p v k e).trans hk⟩
theorem Leaves.putObj (W : World) (l : Nat) (o o' : Obj) (hl : n₀ ≤ l) (ho : W.heap[l]? = some o) (hc : o.isCells = false) : Leaves n₀ T W (W.putObj l o') :=
  ⟨by simp, fun k _ hk hx => by
    by_cases e : k = l
    · subst e
      rw [ho] at hk
      cases hk
      rcases hx with hx | ⟨c, e, f, he, _⟩
      · omega
      · subst he; cases hc
    · exact (World.putObj_heap_other e).trans hk⟩
theorem Leaves.grown {row : Option Nat} (h : Leaves n₀ T W W') (hg : W'.grownBy W'' row) (hr : ∀ g, row = some g → n₀ ≤ g ∧ ∀ c e f, W'.heap[g]? = some (.cells c e f) → ¬ T e) : Leaves n₀ T W W'' :=
  h.trans ⟨hg.size, fun k o hk hx => by
    refine (hg.block k (Array.getElem?_eq_some_iff.1 hk).1 (fun e => ?_)).trans hk
    obtain ⟨h1, h2⟩ := hr k e.symm
    rcases hx with hx | ⟨c, e, f, rfl, hT⟩
    · omega
    · exact h2 c e f hk hT⟩
theorem Leaves.to_below (h : Leaves n₀ T W W') {os : W'.os = W.os} {tp : W'.tape = W.tape} {op : W'.output = W.output} (hn : n₀ ≤ W.heap.size) : Below n₀ W W' :=
  ⟨os, tp, op, h.size, fun k hk => by
    obtain ⟨o, ho⟩ : ∃ o, W.heap[k]? = some o := ⟨_, Array.getElem?_eq_getElem (by omega)⟩
    exact (h.block k o ho (.inl hk)).trans ho.symm⟩
theorem Leaves.cell (h : Leaves n₀ T W W') {p : Addr} {v : Value} (hc : W.cell? p = some v) (hp : p.block < n₀) : W'.cell? p = some v := by
  obtain ⟨o, ho, _⟩ := cells_of_cell hc
  exact (World.cell?_of_block ((h.block _ o ho (.inl hp)).trans ho.symm)).trans hc
theorem Leaves.bk (h : Leaves n₀ T W W') {g : Nat} {t : TypeId} {cs : Array Value} (hb : Bk W g t cs) (ht : T t) : Bk W' g t cs := h.block g _ hb (.inr ⟨_, _, _, rfl, ht⟩)
end
theorem wide_fn (k : Nat) : Fence.wide.fn k = True := rfl
theorem wide_depth : Fence.wide.depth = none := rfl
theorem Sl.leaves {n₀ n sz : Nat} {T : TypeId → Prop} {W W' : World} {A : Option Addr} {cs : List Value} (h : Sl W n₀ sz A n cs) (hl : Leaves n₀ T W W') : Sl W' n₀ sz A n cs :=
  ⟨h.1, fun hn => by
    obtain ⟨b, off, e, hb, hc⟩ := h.2 hn
    exact ⟨b, off, e, hb, fun j u hu => hl.cell (hc j u hu) hb⟩⟩
end Go.Proofs.YtdeikpifflkabaaDoor
