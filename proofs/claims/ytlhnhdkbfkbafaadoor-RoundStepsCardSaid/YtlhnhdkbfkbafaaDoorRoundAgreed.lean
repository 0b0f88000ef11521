/- What this text proves: the contract of a height's method agreed. The conditions are how the state lies in memory, and that hashes have 32 bytes. -/
import Derived.Test.YtlhnhdkbfkbafaaDoorRoundBegin
import Derived.Deep.RegionHeld3
import Derived.Deep.MidRow
namespace Go.Proofs.YtlhnhdkbfkbafaaDoor
open Go.RowKit
set_option linter.unusedVariables false
set_option linter.unusedSimpArgs false

theorem Bk.there {w : World} {g : Nat} {t : TypeId} {cs : List Value} (h : Bk w g t cs.toArray) (off n : Nat) (hl : off + n ≤ cs.length) : w.there g off n := fun j hj => by
  refine ⟨?_, h.frozen _⟩
  rw [h.cell, List.getElem?_toArray, List.getElem?_eq_getElem (by omega)]
  rfl

theorem cell_puts_far {w : World} {b o : Nat} {vs : List Value} {b' o' : Nat} {v : Value} (h : w.cell? ⟨b', o', none⟩ = some v) (hp : b' ≠ b) : (w.setCells b o vs).cell? ⟨b', o', none⟩ = some v :=
  (World.cell?_setCells_out b vs o w _ (fun e => absurd e hp)).trans h
theorem cell_set_far {w : World} {b o : Nat} {u : Value} {b' o' : Nat} {v : Value} (h : w.cell? ⟨b', o', none⟩ = some v) (hp : b' ≠ b) : (w.setCell ⟨b, o, none⟩ u).cell? ⟨b', o', none⟩ = some v := cell_puts_far (vs := [u]) h hp
theorem range_set_far {w : World} {b o : Nat} {cs : List Value} {b' o' : Nat} {u : Value} (h : w.rangeAt b o cs) (hp : b ≠ b') : (w.setCell ⟨b', o', none⟩ u).rangeAt b o cs := World.rangeAt_setCells_apart h b' o' [u] (.inl hp)
theorem there_set {w : World} {b o n : Nat} {b' o' : Nat} {u : Value} (h : w.there b o n) : (w.setCell ⟨b', o', none⟩ u).there b o n := World.there_setCells h b' o' [u]

/-- What a cell that is there holds, in any world. -/
def valAt (p : Addr) (val : World → Value) : Prop := ∀ W : World, val W = (W.cell? p).getD undef
theorem valAt.ex (p : Addr) : ∃ val, valAt p val := ⟨_, fun _ => rfl⟩
theorem valAt.of {p : Addr} {val : World → Value} (hv : valAt p val) {W : World} (h : (W.cell? p).isSome = true) : W.cell? p = some (val W) := by
  rw [hv W]
  obtain ⟨v, e⟩ := Option.isSome_iff_exists.1 h
  rw [e]
  rfl
theorem valAt.puts {p : Addr} {val : World → Value} (hv : valAt p val) {W : World} {b o : Nat} {vs : List Value} (h : W.cell? p = some (val W)) : (W.setCells b o vs).cell? p = some (val (W.setCells b o vs)) :=
  hv.of (World.isSome_setCells b vs o W p (by rw [h]; rfl))
theorem valAt.set {p : Addr} {val : World → Value} (hv : valAt p val) {W : World} {b o : Nat} {u : Value} (h : W.cell? p = some (val W)) : (W.setCell ⟨b, o, none⟩ u).cell? p = some (val (W.setCell ⟨b, o, none⟩ u)) := hv.puts (b := b) (o := o) (vs := [u]) h
theorem valAt.drew {p : Addr} {val : World → Value} (hv : valAt p val) {W : World} (h : W.cell? p = some (val W)) : W.cell? p = some (val W.drew) := hv.of (W := W.drew) (by exact (show (W.cell? p).isSome = true by rw [h]; rfl))
theorem frozen_set {p : Addr} {W : World} {b o : Nat} {u : Value} (h : W.frozen? p = false) : (W.setCell ⟨b, o, none⟩ u).frozen? p = false := (World.frozen?_setCells b [u] o W p).trans h

/-- What is behind a statement, as a letter. -/
theorem wp_later {P : Program} {c : Code} {Q : Exit → Act → World → Prop} {a : Act} {w : World} (h : ∀ Q', Q' = Q → c.wp P Q' a w) : c.wp P Q a w := h Q rfl

theorem Told.behind {w w2 w3 : World} {gs : Nat} {s : St} {oo : Option Out} {e : Ending} (h : Told w2 gs s oo e w3) (hm : Moves (fun k _ => k = gs) w w2) : Told w gs s oo e w3 := by
  obtain ⟨v, h1, h2, h3, h4⟩ := h
  exact ⟨v, h1, h2, h3.less hm.size, hm.trans_ h4 (fun _ _ _ h => h)⟩

set_option maxRecDepth 100000 in
set_option maxHeartbeats 4000000 in
theorem agreed_any (gs : Nat) (s : St) (i : In) (w : World) (hs : s.good) (hi : i.fits) (hb : Bk w gs 25 s.cells.toArray) (h0 : 0 < gs) :
    Calls Tryd.prog 25 #[.pointer (some ⟨gs, 0, none⟩), .agg i.cells.toArray] w
      (Told w gs (if s.step = 2 then {s with valid := i.block, vr := i.round, locked := i.block, lr := i.round, step := 3} else {s with valid := i.block, vr := i.round}) (if s.step = 2 then some ⟨3, s.round, i.block, 0⟩ else none)) := by
  have hgl := hb.lt
  go_enter Tryd.func25, Tryd.ntmps25
  go_upto_region 1 with fail
  have hI0 := Bk.new w 27 i.cells.toArray
  have hS0 := hb.alloc (.cells i.cells.toArray 27)
  have hm0 := Moves.alloc (fun k _ => k = gs) w (.cells i.cells.toArray 27)
  obtain ⟨w0, hw0⟩ : ∃ w0, w.alloc (.cells i.cells.toArray 27) = w0 := ⟨_, rfl⟩
  obtain ⟨gi, hgi⟩ : ∃ gi, w.heap.size = gi := ⟨_, rfl⟩
  rw [hw0] at hI0 hS0 hm0 ⊢
  rw [hgi] at hI0 hgl ⊢
  clear hw0
  obtain ⟨d0, d1, d2, d34, d35, d36⟩ := in_out hI0 hi
  have t35 := hS0.there 35 32 (by rw [St.cells_len hs]; omega)
  have f67 := hS0.frozen 67
  obtain ⟨val, hval⟩ := valAt.ex ⟨gs, 67, none⟩
  have c67 : w0.cell? ⟨gs, 67, none⟩ = some (val w0) := hval.of (by rw [(st_out hS0 hs).2.2.2.2.2.1]; rfl)
  have hcl : (bts i.block).length = 32 := by rw [bts_len, hi.block]
  have hone := bts_one (xs := i.block)
  have hu := hu_hash
  have hih : (Tryd.prog.info? 23).map (·.size) = some (bts i.block).length := by rw [hcl]; exact hi_hash
  have HS0 := Lib.hid hS0
  have HM0 := Lib.hid hm0
  have HI0 := Lib.hid hI0
  clear hS0 hI0 hm0 hb
  have hne : gi ≠ gs := by omega
  refine wp_later fun QQ hQ => ?_
  go_region_held3 (fun w' => w'.rangeAt gi 2 (bts i.block) ∧ w'.cell? ⟨gi, 1, none⟩ = some (.int .i64 i.round) ∧ w'.there gs 35 32 ∧ w'.cell? ⟨gs, 67, none⟩ = some (val w') ∧ w'.frozen? ⟨gs, 67, none⟩ = false) ((go_split_ands; (try simp only [World.rangeAt_drew, World.there_drew, cell_drew_own] at *); (repeat' constructor) <;> first | assumption | exact cell_puts_far (by assumption) hne | exact cell_set_far (by assumption) hne | exact hval.puts (by assumption) | exact hval.set (by assumption) | exact hval.drew (by assumption) | exact frozen_set (by assumption) | exact (World.frozen?_setCells _ _ _ _ _).trans (by assumption) | exact World.rangeAt_setCells_apart (by assumption) _ _ _ (.inl hne) | exact range_set_far (by assumption) hne | (apply World.there_setCells; assumption) | (apply there_set; assumption))) (fail)
  rw [hQ]
  clear hQ
  have hS1 := set_vr (s := {s with valid := i.block}) (by rw [← put_valid hs hi.block]; exact HS0.out.drew.puts (bts i.block) s.cells 35 _ (by rw [St.cells_len hs, hcl]; omega)) ⟨hs.locked, hi.block, hs.block⟩ i.round
  have hI1 : Bk ((w0.drew.setCells gs 35 (bts i.block)).setCell ⟨gs, 67, none⟩ (.int .i64 i.round)) gi 27 i.cells.toArray := ((Moves.puts (X := fun k _ => k = gs) (g := gs) (fun _ => rfl) (bts i.block) 35 w0.drew).bk HI0.out.drew (by omega)).far (p := ⟨gs, 67, none⟩) (show gi ≠ gs by omega) _
  have hm1 := (((HM0.out.trans_ (Moves.drew _ _) (fun _ _ _ h => h)).trans_ (Moves.puts (X := fun k _ => k = gs) (g := gs) (fun _ => rfl) (bts i.block) 35 w0.drew) (fun _ _ _ h => h)).trans_ (Moves.setCell (X := fun k _ => k = gs) _ ⟨gs, 67, none⟩ (.int .i64 i.round) (fun _ _ => rfl)) (fun _ _ _ h => h))
  obtain ⟨w1, hw1⟩ : ∃ w1, (w0.drew.setCells gs 35 (bts i.block)).setCell ⟨gs, 67, none⟩ (.int .i64 i.round) = w1 := ⟨_, rfl⟩
  rw [hw1] at hS1 hI1 hm1 ⊢
  clear hw1 HS0 HM0 HI0 d0 d1 d2 d34 d35 d36 t35 f67 c67 hval
  have hg1 : ({s with valid := i.block, vr := i.round} : St).good := ⟨hs.locked, hi.block, hs.block⟩
  have HS1 : Hid (Bk w1 gs 25 ({s with valid := i.block, vr := i.round} : St).cells.toArray) := Lib.hid hS1
  have HM1 := Lib.hid hm1
  have HI1 := Lib.hid hI1
  obtain ⟨c0, c1, c2, c34, c35, _⟩ := st_out hS1 ⟨hs.locked, hi.block, hs.block⟩
  simp only at c0 c1 c34
  clear hS1 hm1 hI1 c2 c35
  by_cases h2 : s.step = 2
  · have e1 : (s.step != 2) = false := by simp [h2]
    have HC := Lib.hid (fun W => precommit_any gs {s with valid := i.block, vr := i.round, locked := i.block, lr := i.round} i.block W ⟨hi.block, hi.block, hs.block⟩ hi.block)
    go_upto_region 4 with fail
    obtain ⟨d0, d1, d2, d34, d35, d36⟩ := in_out HI1.out hi
    have t35 := HS1.out.there 2 32 (by rw [St.cells_len hg1]; omega)
    have f67 := HS1.out.frozen 34
    obtain ⟨val, hval⟩ := valAt.ex ⟨gs, 34, none⟩
    have c67 : w1.cell? ⟨gs, 34, none⟩ = some (val w1) := hval.of (by rw [c34]; rfl)
    clear c0 c1 c34
    refine wp_later fun QQ hQ => ?_
    go_region_held3 (fun w' => w'.rangeAt gi 2 (bts i.block) ∧ w'.cell? ⟨gi, 1, none⟩ = some (.int .i64 i.round) ∧ w'.there gs 2 32 ∧ w'.cell? ⟨gs, 34, none⟩ = some (val w') ∧ w'.frozen? ⟨gs, 34, none⟩ = false) ((go_split_ands; (try simp only [World.rangeAt_drew, World.there_drew, cell_drew_own] at *); (repeat' constructor) <;> first | assumption | exact cell_puts_far (by assumption) hne | exact cell_set_far (by assumption) hne | exact hval.puts (by assumption) | exact hval.set (by assumption) | exact hval.drew (by assumption) | exact frozen_set (by assumption) | exact (World.frozen?_setCells _ _ _ _ _).trans (by assumption) | exact World.rangeAt_setCells_apart (by assumption) _ _ _ (.inl hne) | exact range_set_far (by assumption) hne | (apply World.there_setCells; assumption) | (apply there_set; assumption))) (fail)
    rw [hQ]
    clear hQ
    have hS2 := set_lr (s := {s with valid := i.block, vr := i.round, locked := i.block}) (by rw [← put_locked (s := {s with valid := i.block, vr := i.round}) ⟨hs.locked, hi.block, hs.block⟩ hi.block]; exact HS1.out.drew.puts (bts i.block) (St.cells {s with valid := i.block, vr := i.round}) 2 _ (by rw [St.cells_len hg1, hcl]; omega)) ⟨hi.block, hi.block, hs.block⟩ i.round
    have hI2 : Bk ((w1.drew.setCells gs 2 (bts i.block)).setCell ⟨gs, 34, none⟩ (.int .i64 i.round)) gi 27 i.cells.toArray := ((Moves.puts (X := fun k _ => k = gs) (g := gs) (fun _ => rfl) (bts i.block) 2 w1.drew).bk HI1.out.drew (by omega)).far (p := ⟨gs, 34, none⟩) (show gi ≠ gs by omega) _
    have hm2 := (((HM1.out.trans_ (Moves.drew _ _) (fun _ _ _ h => h)).trans_ (Moves.puts (X := fun k _ => k = gs) (g := gs) (fun _ => rfl) (bts i.block) 2 w1.drew) (fun _ _ _ h => h)).trans_ (Moves.setCell (X := fun k _ => k = gs) _ ⟨gs, 34, none⟩ (.int .i64 i.round) (fun _ _ => rfl)) (fun _ _ _ h => h))
    obtain ⟨w2, hw2⟩ : ∃ w2, (w1.drew.setCells gs 2 (bts i.block)).setCell ⟨gs, 34, none⟩ (.int .i64 i.round) = w2 := ⟨_, rfl⟩
    rw [hw2] at hS2 hI2 hm2 ⊢
    clear hw2 HS1 HM1 HI1 d0 d1 d2 d34 d35 d36 t35 f67 c67 hval
    have HS2 := Lib.hid hS2
    have HM2 := Lib.hid hm2
    obtain ⟨d0, d1, d2, d34, d35, d36⟩ := in_out hI2 hi
    clear hS2 hm2 hI2 d0 d1 d34 d35 d36
    go_wp2_with (refine wpList_val (by rfl) (run_load_seg 23 _ (by with_reducible rfl) _ _ (by rfl) _ (by assumption) 32 (by assumption) _ hu_hash (by rfl) hi_hash) ?_)
    with_reducible refine ((HC.out _) HS2.out).mono ?_
    rintro e w3 hT
    obtain ⟨v, rfl, hT2, hT3, hT4⟩ := hT.behind HM2.out
    go_wp2_with fail
    go_ret
    exact ⟨_, rfl, hT2, hT3, hT4⟩
  · have e1 : (s.step != 2) = true := by simp [h2]
    go_wp2_with fail
    go_ret
    exact ⟨_, rfl, HS1.out, rfl, HM1.out⟩
end Go.Proofs.YtlhnhdkbfkbafaaDoor
