/- What this text proves: the contracts of a height's methods prevote, precommit, begin, agreed: what each leaves of the state, and what it says. The conditions are how the state lies in memory, and that hashes have 32 bytes. -/
import Derived.Test.YtlhnhdkbfkbafaaDoorRoundMem
import Derived.Deep.Cut
import Derived.StillTailTactics
import Derived.Outline
namespace Go.Proofs.YtlhnhdkbfkbafaaDoor
open Go.RowKit
set_option linter.unusedVariables false
set_option linter.unusedSimpArgs false

theorem rangeAt_moves {X : Nat → Obj → Prop} {w w' : World} {b off : Nat} {cs : List Value} (h : w.rangeAt b off cs) (hm : Moves X w w') (hx : ∀ o, ¬ X b o) : w'.rangeAt b off cs := fun j v hv => hm.cell (p := ⟨b, off + j, none⟩) (h j v hv) (fun o _ => hx o)
theorem Moves.trans_new {X : Nat → Obj → Prop} {g : Nat} {w w1 w2 : World} (h : Moves X w w1) (h' : Moves (fun k _ => k = g) w1 w2) (hg : w.heap.size ≤ g) : Moves X w w2 :=
  ⟨h'.os.trans h.os, h'.tape.trans h.tape, h'.output.trans h.output, Nat.le_trans h.size h'.size, fun k o hk hn => h'.block k o (h.block k o hk hn) (fun e => by
    have := (Array.getElem?_eq_some_iff.1 hk).1
    omega)⟩

/-- What was said lies in a block at N or behind. -/
def OutAt (w : World) (N : Nat) (v : Value) : Option Out → Prop
  | none => v = .slice none 0 0
  | some o => ∃ b, v = .slice (some ⟨b, 0, none⟩) 1 1 ∧ N ≤ b ∧ Bk w b 45 o.cells.toArray
def Told (w : World) (gs : Nat) (s : St) (oo : Option Out) (e : Ending) (w' : World) : Prop :=
  ∃ v, e = .returned v ∧ Bk w' gs 25 s.cells.toArray ∧ OutAt w' w.heap.size v oo ∧ Moves (fun k _ => k = gs) w w'
/-- The package's empty hash. -/
def None0 (w : World) : Prop := w.rangeAt 0 0 (bts zeros)
theorem None0.moves {X : Nat → Obj → Prop} {w w' : World} (h : None0 w) (hm : Moves X w w') (hx : ∀ o, ¬ X 0 o) : None0 w' := rangeAt_moves h hm hx
theorem None0.size {w : World} (h : None0 w) : 0 < w.heap.size := by
  have := h 0 _ rfl
  have := World.block_lt_of_cell? w _ this
  omega
theorem say_at (k r v : Int) (h : List UInt8) (hl : h.length = 32) (w : World) :
    Calls Tryd.prog 18 #[.int .i64 k, .int .i64 r, .agg (bts h).toArray, .int .i64 v] w fun e w' => ∃ u, e = .returned u ∧ OutAt w' w.heap.size u (some ⟨k, r, h, v⟩) ∧ Below w.heap.size w w' :=
  (say_any k r v h hl w).mono fun e w' ⟨b, h1, h2, h3, h4⟩ => ⟨_, h1, ⟨b, rfl, h2, h3⟩, h4⟩
theorem OutAt.less {w : World} {N N' : Nat} {v : Value} {oo : Option Out} (h : OutAt w N v oo) (hN : N' ≤ N) : OutAt w N' v oo := by
  cases oo with
  | none => exact h
  | some o =>
    obtain ⟨b, h1, h2, h3⟩ := h
    exact ⟨b, h1, Nat.le_trans hN h2, h3⟩

theorem told_of {w W w3 : World} {gs : Nat} {s' : St} {oo : Option Out} {u : Value} (hS : Bk W gs 25 s'.cells.toArray) (hm : Moves (fun k _ => k = gs) w W) (ho : OutAt w3 W.heap.size u oo) (hb : Below W.heap.size W w3) : Told w gs s' oo (.returned u) w3 :=
  ⟨u, rfl, hS.below hb hS.lt, ho.less hm.size, hm.trans_ (Moves.below _ hb (Nat.le_refl _)) (fun _ _ _ h => h)⟩

set_option maxHeartbeats 2000000 in
theorem prevote_any (gs : Nat) (s : St) (i : In) (may : Bool) (w : World) (hs : s.good) (hi : i.fits) (hb : Bk w gs 25 s.cells.toArray) (hn : None0 w) (h0 : 0 < gs) :
    Calls Tryd.prog 23 #[.pointer (some ⟨gs, 0, none⟩), .agg i.cells.toArray, .bool may] w (Told w gs {s with step := 2} (some ⟨2, i.round, if may && i.good then i.block else zeros, 0⟩)) := by
  have hgl := hb.lt
  have hil := In.cells_len hi
  go_enter Tryd.func23, Tryd.ntmps23
  go_upto_region 1 with fail
  have hI0 := Bk.new w 27 i.cells.toArray
  have hS0 := hb.alloc (.cells i.cells.toArray 27)
  have hm0 := Moves.alloc (fun k _ => k = gs) w (.cells i.cells.toArray 27)
  have hz0 : (w.alloc (.cells i.cells.toArray 27)).heap.size = w.heap.size + 1 := by simp
  obtain ⟨w0, hw0⟩ : ∃ w0, w.alloc (.cells i.cells.toArray 27) = w0 := ⟨_, rfl⟩
  obtain ⟨gi, hgi⟩ : ∃ gi, w.heap.size = gi := ⟨_, rfl⟩
  rw [hw0] at hI0 hS0 hm0 hz0 ⊢
  rw [hgi] at hI0 hz0 hgl ⊢
  have c1 := hS0.cell 1
  have hc1 : w0.cell? ⟨gs, 1, none⟩ = some (.int .i64 s.step) := (st_out hS0 hs).2.1
  have hf1 := hS0.frozen 1
  have hS1 := set_step hS0 2
  have hI1 := hI0.far (p := ⟨gs, 1, none⟩) (show gi ≠ gs by omega) (.int .i64 2)
  have hm1 := hm0.trans_ (Moves.setCell (X := fun k _ => k = gs) w0 ⟨gs, 1, none⟩ (.int .i64 2) (fun _ _ => rfl)) (fun _ _ _ h => h)
  have hz1 : (w0.setCell ⟨gs, 1, none⟩ (.int .i64 2)).heap.size = gi + 1 := by simp [World.setCell, hz0]
  have hN1 := hn.moves hm1 (fun _ => by omega)
  have hN1' : (w0.setCell ⟨gs, 1, none⟩ (.int .i64 2)).rangeAt 0 0 (bts zeros) := hN1
  obtain ⟨d0, d1, d2, d34, d35, d36⟩ := in_out hI1 hi
  have hzl : (bts zeros).length = 32 := by rw [bts_len, zeros_len]
  have hbl : (bts i.block).length = 32 := by rw [bts_len, hi.block]
  have HS1 := Lib.hid hS1
  have HI1 := Lib.hid hI1
  have HM1 := Lib.hid hm1
  have HGI := Lib.hid hgi
  have HIL := Lib.hid hil
  have HSa := Lib.hid (fun W => say_at 2 i.round 0 i.block hi.block W)
  have HSz := Lib.hid (fun W => say_at 2 i.round 0 zeros zeros_len W)
  obtain ⟨ik, ir, ib, iv, ig, io⟩ := i
  simp only at *
  clear hw0 hI0 hS0 hm0 c1 hS1 hI1 hm1 hN1 hgi hil hb hn
  by_cases hmay : may = true ∧ ig = true
  · obtain ⟨rfl, rfl⟩ := hmay
    go_wp2_with (refine wpList_val (by rfl) (run_load_seg 23 _ (by with_reducible rfl) _ _ (by rfl) _ (by assumption) 32 (by assumption) _ hu_hash (by rfl) hi_hash) ?_)
    with_reducible refine (HSa.out _).mono ?_
    rintro e w3 ⟨u, rfl, ho, hb3⟩
    go_wp2_with fail
    go_ret
    exact told_of HS1.out HM1.out ho hb3
  · have hside : (if (may && ig) = true then ib else zeros) = zeros := by
      rw [if_neg]
      rw [Bool.and_eq_true]
      exact hmay
    rw [hside]
    have key : ∀ (Q : Prop), (may = false → Q) → (may = true → ig = false → Q) → Q := by
      intro Q h1 h2
      cases may
      · exact h1 rfl
      · cases ig
        · exact h2 rfl rfl
        · exact absurd ⟨rfl, rfl⟩ hmay
    clear hside hmay
    refine key _ (fun e => ?_) (fun e e' => ?_)
    · subst e
      clear key
      go_wp2_with (first
        | (refine wpList_val (by rfl) (run_load_seg 23 _ (by with_reducible rfl) _ _ (by rfl) _ (by assumption) 32 (by assumption) _ hu_hash (by rfl) hi_hash) ?_)
        | (refine wpList_puts (by rfl) 23 _ _ (by with_reducible rfl) gi 2 (by rfl) (bts zeros) (by rfl) 27 _ (by exact HI1.out) 32 hzl (by rw [HIL.out]; omega) hi_hash bts_all ?_; intro w2 hb2 hm2 hz2; rw [put_in_block hi zeros_len] at hb2; obtain ⟨e0, e1, e2, e34, e35, e36⟩ := in_out hb2 ⟨zeros_len, hi.own⟩; have HM2 := Lib.hid hm2; have HS2 := Lib.hid (hm2.bk HS1.out (by omega)); clear hb2 hm2))
      with_reducible refine (HSz.out _).mono ?_
      rintro e w3 ⟨u, rfl, ho, hb3⟩
      go_wp2_with fail
      go_ret
      exact told_of HS2.out (HM1.out.trans_new HM2.out (by have := HGI.out; omega)) ho hb3
    · subst e e'
      clear key
      go_wp2_with (first
        | (refine wpList_val (by rfl) (run_load_seg 23 _ (by with_reducible rfl) _ _ (by rfl) _ (by assumption) 32 (by assumption) _ hu_hash (by rfl) hi_hash) ?_)
        | (refine wpList_puts (by rfl) 23 _ _ (by with_reducible rfl) gi 2 (by rfl) (bts zeros) (by rfl) 27 _ (by exact HI1.out) 32 hzl (by rw [HIL.out]; omega) hi_hash bts_all ?_; intro w2 hb2 hm2 hz2; rw [put_in_block hi zeros_len] at hb2; obtain ⟨e0, e1, e2, e34, e35, e36⟩ := in_out hb2 ⟨zeros_len, hi.own⟩; have HM2 := Lib.hid hm2; have HS2 := Lib.hid (hm2.bk HS1.out (by omega)); clear hb2 hm2))
      with_reducible refine (HSz.out _).mono ?_
      rintro e w3 ⟨u, rfl, ho, hb3⟩
      go_wp2_with fail
      go_ret
      exact told_of HS2.out (HM1.out.trans_new HM2.out (by have := HGI.out; omega)) ho hb3

set_option maxHeartbeats 2000000 in
theorem precommit_any (gs : Nat) (s : St) (h : List UInt8) (w : World) (hs : s.good) (hl : h.length = 32) (hb : Bk w gs 25 s.cells.toArray) :
    Calls Tryd.prog 24 #[.pointer (some ⟨gs, 0, none⟩), .agg (bts h).toArray] w (Told w gs {s with step := 3} (some ⟨3, s.round, h, 0⟩)) := by
  have hgl := hb.lt
  have hbl : (bts h).length = 32 := by rw [bts_len, hl]
  go_enter Tryd.func24, Tryd.ntmps24
  go_upto_region 1 with fail
  have hI0 := Bk.new w 23 (bts h).toArray
  have hS0 := hb.alloc (.cells (bts h).toArray 23)
  have hm0 := Moves.alloc (fun k _ => k = gs) w (.cells (bts h).toArray 23)
  obtain ⟨w0, hw0⟩ : ∃ w0, w.alloc (.cells (bts h).toArray 23) = w0 := ⟨_, rfl⟩
  obtain ⟨gi, hgi⟩ : ∃ gi, w.heap.size = gi := ⟨_, rfl⟩
  rw [hw0] at hI0 hS0 hm0 ⊢
  rw [hgi] at hI0 hgl ⊢
  have hc1 : w0.cell? ⟨gs, 1, none⟩ = some (.int .i64 s.step) := (st_out hS0 hs).2.1
  have hf1 := hS0.frozen 1
  have hS1 := set_step hS0 3
  have hI1 := hI0.far (p := ⟨gs, 1, none⟩) (show gi ≠ gs by omega) (.int .i64 3)
  have hm1 := hm0.trans_ (Moves.setCell (X := fun k _ => k = gs) w0 ⟨gs, 1, none⟩ (.int .i64 3) (fun _ _ => rfl)) (fun _ _ _ h => h)
  have HSa := Lib.hid (fun W => say_at 3 s.round 0 h hl W)
  clear hw0
  go_upto_region 2 with fail
  obtain ⟨w1, hw1⟩ : ∃ w1, w0.setCell ⟨gs, 1, none⟩ (.int .i64 3) = w1 := ⟨_, rfl⟩
  rw [hw1] at hS1 hI1 hm1 ⊢
  have d0 := (st_out hS1 ⟨hs.locked, hs.valid, hs.block⟩).1
  have d2 : w1.rangeAt gi 0 (bts h) := hI1.seg 0 [] (bts h) [] (by simp) rfl
  have HS1 := Lib.hid hS1
  have HM1 := Lib.hid hm1
  simp only at d0
  clear hw1 hS0 hI0 hI1 hm0 hm1 hS1 hc1 hf1 hgi hs
  refine wp_still_tail 5 (by kernel_rfl) (by kernel_rfl) fun w2 hw2 => ?_
  simp only [List.take_succ_cons, List.take_zero, List.drop_succ_cons, List.drop_zero]
  have e0 : w2.cell? ⟨gs, 0, none⟩ = some (.int .i64 s.round) := by rw [hw2]; exact d0
  have e2 : w2.rangeAt gi 0 (bts h) := by rw [hw2]; exact (World.rangeAt_drew _ _ _ _).2 d2
  have HS2 : Hid (Bk w2 gs 25 ({s with step := 3} : St).cells.toArray) := Lib.hid (by rw [hw2]; exact HS1.out.drew)
  have HM2 : Hid (Moves (fun k _ => k = gs) w w2) := Lib.hid (by rw [hw2]; exact HM1.out.trans_ (Moves.drew _ _) (fun _ _ _ h => h))
  clear hw2 d0 d2
  repeat (first | (refine wpStill_val (by rfl) (run_load_seg 23 _ (by with_reducible rfl) _ _ (by rfl) _ (by assumption) 32 (by assumption) _ hu_hash (by rfl) hi_hash) ?_) | still_step)
  refine wpStill_nil ?_
  go_wp2_with fail
  with_reducible refine (HSa.out _).mono ?_
  rintro e w3 ⟨u, rfl, ho, hb3⟩
  go_wp2_with fail
  go_ret
  exact told_of HS2.out HM2.out ho hb3
end Go.Proofs.YtlhnhdkbfkbafaaDoor
