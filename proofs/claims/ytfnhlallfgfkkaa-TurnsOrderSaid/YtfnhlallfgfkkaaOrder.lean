/- What this text proves: the contract of turns.Order, for any list of validators and any number of turns. No condition but that the list is no longer than a slice can be. -/
import Derived.Test.YtfnhlallfgfkkaaTurnsIter
import Derived.Maps.AppendAt
import Derived.Deep.DeepMust
namespace Go.Proofs.Ytfnhlallfgfkkaa
open Go.RowKit Go.Shelf
set_option linter.unusedVariables false
set_option linter.unusedSimpArgs false
attribute [local go_sem] Oper.semAt_some wide_fn wide_depth

theorem info_u64 : (Try.prog.info? 30).map (fun i => (i.zero, i.size, i.bytes)) = some (some (.int .u64 0), 1, 8) := by kernel_rfl
/-- The first turns, and the error's number. -/
def orderV (l : List (Int × Int)) (n : Int) : List Int × Int :=
  if rightV l = false then ([], 71) else if n < 0 ∨ 4096 < n then ([], 81) else ((List.range n.toNat).map (keyAt l), 0)
def u64s (p : List Int) : List Value := p.map (Value.int .u64)

/-- The maker of the iterator. -/
theorem turns_any (A : Option Addr) (n c : Nat) (w : World) :
    Calls Try.prog 20 #[.slice A n c] w fun e w' => e = .returned (.func (.func 23) #[] #[.pointer (some ⟨w.heap.size, 0, none⟩)]) ∧ w.alloc (.cells #[.slice A n c] 22) = w' := by
  go_enter Try.func20, Try.ntmps20
  go_wp2
  go_ret
  exact ⟨rfl, rfl⟩

/-- What the loop in Order holds: the box of the turns so far. -/
def OI (l : List (Int × Int)) (w : World) (BO N : Nat) (pre : List Nat) (W : World) : Prop :=
  (∃ v, Bk W BO 27 #[v] ∧ W.ownsRow w.heap.size 30 1 v pre.length (u64s (pre.map (keyAt l)))) ∧ Bk W w.heap.size 3 #[.int .i64 N] ∧ Below w.heap.size w W
theorem OI.moves {l : List (Int × Int)} {w W W' : World} {BO N B : Nat} {pre : List Nat} (h : OI l w BO N pre W) (hB : w.heap.size < B) (hBO : BO < B) (hs : w.heap.size ≤ W.heap.size) (hm : Moves (fun k o => TX B k o ∨ (B ≤ k ∧ o.isCells = false)) W W') : OI l w BO N pre W' := by
  obtain ⟨⟨v, h1, h2⟩, h3, h4⟩ := h
  refine ⟨⟨v, hm.bk h1 ?_, hm.own h2 ?_⟩, hm.bk h3 ?_, h4.trans (hm.to_below hs ?_)⟩
  · rintro (⟨h, _⟩ | ⟨h, _⟩) <;> omega
  · rintro g cs _ (⟨_, c, e, f, he, hh⟩ | ⟨_, hh⟩)
    · cases he; revert hh; decide
    · cases hh
  · rintro (⟨h, _⟩ | ⟨h, _⟩) <;> omega
  · rintro k o (⟨h, _⟩ | ⟨h, _⟩) <;> omega

/-- One round's append, and the store of what came. -/
theorem OI.step {l : List (Int × Int)} {w W w1 : World} {BO N B g cap : Nat} {pre : List Nat} {x : Nat} {v : Value} (hB : w.heap.size < B) (hBO : BO < B) (hBO' : w.heap.size < BO) (hv : Bk W BO 27 #[v])
    (hrow : W.ownsRow w.heap.size 30 1 v pre.length (u64s (pre.map (keyAt l)))) (hn : Bk W w.heap.size 3 #[.int .i64 N]) (hb : Below w.heap.size w W)
    (hg : (W.alloc (.cells #[.int .u64 (keyAt l x)] 30)).grownBy w1 v.ownBlock) (ho : w1.ownsRow w.heap.size 30 1 (.slice (some ⟨g, 0, none⟩) (pre.length + 1) cap) (pre.length + 1) (u64s (pre.map (keyAt l)) ++ [.int .u64 (keyAt l x)])) :
    KeepsFrom B W (w1.setCell ⟨BO, 0, none⟩ (.slice (some ⟨g, 0, none⟩) (pre.length + 1) cap)) ∧ Leaves w.heap.size TT W (w1.setCell ⟨BO, 0, none⟩ (.slice (some ⟨g, 0, none⟩) (pre.length + 1) cap)) ∧
      OI l w BO N (pre ++ [x]) (w1.setCell ⟨BO, 0, none⟩ (.slice (some ⟨g, 0, none⟩) (pre.length + 1) cap)) := by
  have hown := own_ne hrow hv (by decide)
  have hv1 := (hv.alloc (.cells #[.int .u64 (keyAt l x)] 30)).grown hg hown
  have hn1 := (hn.alloc (.cells #[.int .u64 (keyAt l x)] 30)).grown hg (own_ne hrow hn (by decide))
  refine ⟨?_, ?_, ⟨_, hv1.set_ 0 _, ?_⟩, hn1.far (p := ⟨BO, 0, none⟩) (by simp; omega) _, ?_⟩
  · refine (((KeepsOthers.alloc W _).trans (KeepsOthers.of_grownBy hg ?_)).trans (KeepsOthers.setCell _ _ _)).from _
    intro j o hj ho'
    obtain ⟨_, _, cs, hcs⟩ := own_cells (hrow.alloc (.cells #[.int .u64 (keyAt l x)] 30)) hj
    rw [hcs] at ho'
    cases ho'
    rfl
  · refine (((Leaves.refl w.heap.size TT W).alloc _).grown hg ?_).setCell _ (by simp; omega) hv1 (by simp [TT])
    intro j hj
    obtain ⟨h1, _, cs, hcs⟩ := own_cells (hrow.alloc (.cells #[.int .u64 (keyAt l x)] 30)) hj
    refine ⟨h1, fun c e f he => ?_⟩
    rw [hcs] at he
    cases he
    simp [TT]
  · have := own_far ho (p := ⟨BO, 0, none⟩) (own_ne ho hv1 (by decide)) (.slice (some ⟨g, 0, none⟩) (pre.length + 1) cap)
    simpa [u64s] using this
  · refine ((hb.alloc hb.size _).grown hg (by have := hb.size; simp; omega) ?_).setCell (by simp; omega) _
    intro k hk
    exact (own_cells hrow hk).1

set_option maxHeartbeats 4000000 in
theorem order_some (A : Option Addr) (l : List (Int × Int)) (c N : Nat) (w : World) (hr : rightV l = true) (h1 : 1 ≤ N) (h2 : N ≤ 4096) (hA : Sl w w.heap.size 2 A l.length (vCells l)) :
    Calls Try.prog 10 #[.slice A l.length c, .int .i64 N] w fun e w' =>
      ∃ v, e = .returned (.tuple #[v, .int .i64 0]) ∧ w'.ownsRow w.heap.size 30 1 v N (u64s ((List.range N).map (keyAt l))) ∧ Below w.heap.size w w' := by
  have hlm : l.length ≤ maxLen := by have := (rightV_sum hr).2.2.2; unfold maxLen; omega
  have HC := Lib.hid (fun (w1 : World) (h : Below w.heap.size w w1) => right_any A l c w1 hlm ((hA.below h).more h.size))
  have HA := Lib.hid hA
  have HR := Lib.hid hr
  clear hA hlm hr
  refine (callsIn_wide (n := 9)).1 ?_
  refine callsIn_of_wp_marks Try.func10 rfl trivial ?_
  simp only [Try.ntmps10, List.size_toArray, List.length_cons, List.length_nil, Nat.reduceAdd, Nat.reduceSub, Array.replicate_succ, Array.replicate_zero, List.push_toArray, List.append_toArray, List.nil_append, List.cons_append]
  have hb0 : Below w.heap.size w (w.alloc (.cells #[.int .i64 N] 3)) := (by (first | assumption | (repeat (first | exact Below.refl _ _ | assumption | apply Below.drew | apply below_drewN | (refine Below.setCell ?_ (by (try simp) <;> omega) _) | (refine Below.alloc ?_ (by (try simp) <;> omega) _)))))
  have e0 : ((N : Int) == 0) = false := by simp; omega
  gi_wp2_with (first
    | (gi_at_call 13; refine (callsIn_wide.2 (HC.out _ hb0)).mono ?_; rw [HR.out]; rintro e w1 ⟨rfl, hb1⟩; have hcN : w1.cell? ⟨w.heap.size, 0, none⟩ = some (.int .i64 N) := (hb1.cell (p := ⟨w.heap.size, 0, none⟩) (by simp)).trans (by simp))
    | (gi_at_call 20; refine (callsIn_wide.2 (turns_any A l.length c _)).mono ?_; rintro e w2 ⟨rfl, hw2⟩))
  clear e0
  have hb2 : Below w.heap.size w w2 := by
    rw [← hw2]
    have := hb1.size
    simp at this
    exact (((hb0.trans (hb1.mono (by simp))).alloc (by omega) _).alloc (by simp; omega) _)
  have hbo : Bk w2 w1.heap.size 27 #[.slice none 0 0] := by rw [← hw2]; exact (Bk.new w1 _ _).alloc _
  have hbx : Bk w2 (w1.heap.size + 1) 22 #[.slice A l.length c] := by
    rw [← hw2]
    have := Bk.new (w1.alloc (.cells #[.slice none 0 0] 27)) 22 #[.slice A l.length c]
    rwa [World.size_alloc] at this
  have hbn : Bk w2 w.heap.size 3 #[.int .i64 N] := by
    rw [← hw2]
    exact (((Bk.new w 3 #[.int .i64 N]).below hb1 (by simp)).alloc _).alloc _
  obtain ⟨BO, hBO⟩ : ∃ BO, w1.heap.size = BO := ⟨_, rfl⟩
  have hBOl : w.heap.size < BO := by have := hb1.size; simp at this; omega
  rw [hBO] at hbo hbx ⊢
  have hA2 := HA.out.below hb2
  have hs2 := hb2.size
  have hbol := hbo.lt
  have hbxl := hbx.lt
  clear hw2 hcN hb0 hb1 hBO
  refine range_J (gf := 23) (lb := #[.pointer (some ⟨BO + 1, 0, none⟩)]) rfl (enters_of Try.func23 (by kernel_rfl) rfl)
    (turns_seq 8 w.heap.size N h2 (BO + 1) c A l HR.out w2 hs2 hbx hA2) (fun k o h => by obtain ⟨_, c, e, f, rfl, _⟩ := h; rfl)
    Leaves.trans (fun W l o o' hl ho hc => Leaves.putObj W l o o' (Nat.le_trans hs2 hl) ho hc) (fun _ => rfl)
    (fun pre W => pre.length < N ∧ OI l w BO N pre W) (fun cd pre W => cd = .exit 1 ∧ pre.length = N ∧ OI l w BO N pre W)
    (fun pre W W' h hm => ⟨h.1, h.2.moves (by omega) (by omega) h.2.2.2.size hm⟩) (fun cd pre W W' h hm => ⟨h.1, h.2.1, h.2.2.moves (by omega) (by omega) h.2.2.2.2.size hm⟩)
    ⟨by simp; omega, ⟨_, hbo, World.ownsRow_nil _ _ _ _⟩, hbn, hb2⟩ (fun pre W h => h.1) ?round ?done ?stop
  case round =>
    intro L pre x W hL hi hlen
    simp only [tEnc]
    gi_wp2
    refine ⟨KeepsFrom.refl _ _, Leaves.refl _ _ _, hi, ?_⟩
    clear hi hbo hbx hbn hb2 hA2
    intro W2 hi hm hrec
    obtain ⟨hlN, ⟨v, hv, hrow⟩, hn, hB⟩ := hi
    obtain ⟨i0, hi, hz0, hz1, hz2⟩ := info_parts info_u64
    have hcv := hv.cell 0
    have hcn := hn.cell 0
    gi_wp2_with (gi_at_builtin; go_must (refine wpListIn_append_own _ rfl _ _ 27 rfl w.heap.size 30 i0 _ 1 8 Try.underlying27 hi hz0 hz1 hz2 rfl (by decide) _ _ _ rfl (hrow.alloc _) ⟨W2.heap.size, 0, none⟩ 1 1 [.int .u64 (keyAt l x)] rfl rfl (cell_one_new _ _ _) (by simp [Value.oneCell']) (by unfold maxLen; omega) (by omega) (by have := hB.size; simp; omega) ?_; intro v' w1 hown' hgrow _; obtain ⟨g', cap', rfl⟩ := ownsRow_succ hown'; have hv1 := (hv.alloc (.cells #[.int .u64 (keyAt l x)] 30)).grown hgrow (own_ne hrow hv (by decide)); have hn1 := (hn.alloc (.cells #[.int .u64 (keyAt l x)] 30)).grown hgrow (own_ne hrow hn (by decide)); have hf1 := hv1.frozen 0; have hc1 := hv1.cell 0; have hn2 := hn1.far (p := ⟨BO, 0, none⟩) (by simp; omega) (.slice (some ⟨g', 0, none⟩) (pre.length + 1) cap'); have hcn2 := hn2.cell 0))
    · obtain ⟨s1, s2, s3⟩ := OI.step (B := w2.heap.size) (by omega) (by omega) hBOl hv hrow hn hB hgrow hown'
      have he : ((pre.length : Int) + 1 == (N : Int)) = true := by assumption
      rw [beq_iff_eq] at he
      exact ⟨s1, rfl, by simp; omega, s3⟩
    · obtain ⟨s1, s2, s3⟩ := OI.step (B := w2.heap.size) (by omega) (by omega) hBOl hv hrow hn hB hgrow hown'
      have hne : ((pre.length : Int) + 1 == (N : Int)) = false := by assumption
      rw [beq_eq_false_iff_ne] at hne
      exact ⟨s1, s2, by simp; omega, s3⟩
  case done => rintro D xs W _ h; exact h.elim
  case stop =>
    rintro D cd pre W hD ⟨t, ht, hp⟩ ⟨rfl, hlp, ⟨v, hv, hrow⟩, hn, hB⟩ hK
    have hcv := hv.cell 0
    obtain rfl : t + 1 = N := by rw [← hlp, hp]; simp
    rw [hlp, hp] at hrow
    obtain ⟨g', cap', rfl⟩ := ownsRow_succ hrow
    have HP := Lib.hid hp
    clear hp hlp
    gi_wp2
    refine ⟨by simp, .inl ⟨_, _, rfl, run_takeDeferred hK, ?_⟩⟩
    refine ⟨_, results_tmp2 rfl _ _ _, _, rfl, ?_, ?_⟩
    · exact ownsRow_putObj hrow _ hK rfl
    · exact hB.trans ((Moves.putObj (X := fun k _ => w.heap.size ≤ k) W D _ (fun o _ => by omega)).to_below hB.size (fun k _ h => h))

theorem orderV_some {l : List (Int × Int)} {N : Nat} (hr : rightV l = true) (h : N ≤ 4096) : orderV l N = ((List.range N).map (keyAt l), 0) := by
  rw [orderV, if_neg (by simp [hr]), if_neg (by omega), Int.toNat_natCast]

set_option maxHeartbeats 4000000 in
theorem order_any (A : Option Addr) (l : List (Int × Int)) (c : Nat) (n : Int) (w : World) (hl : l.length ≤ maxLen) (hA : Sl w w.heap.size 2 A l.length (vCells l)) :
    Calls Try.prog 10 #[.slice A l.length c, .int .i64 n] w fun e w' =>
      ∃ v, e = .returned (.tuple #[v, .int .i64 (orderV l n).2]) ∧ w'.ownsRow w.heap.size 30 1 v (orderV l n).1.length (u64s (orderV l n).1) ∧ Below w.heap.size w w' := by
  by_cases hok : rightV l = true ∧ 1 ≤ n ∧ n ≤ 4096
  · obtain ⟨hr, h1, h2⟩ := hok
    obtain ⟨N, rfl⟩ : ∃ N : Nat, n = N := ⟨n.toNat, by omega⟩
    refine (order_some A l c N w hr (by omega) (by omega) hA).mono ?_
    rw [orderV_some hr (by omega)]
    simp only [List.length_map, List.length_range]
    exact fun _ _ h => h
  · have hb0 : Below w.heap.size w (w.alloc (.cells #[.int .i64 n] 3)) := (by (first | assumption | (repeat (first | exact Below.refl _ _ | assumption | apply Below.drew | apply below_drewN | (refine Below.setCell ?_ (by (try simp) <;> omega) _) | (refine Below.alloc ?_ (by (try simp) <;> omega) _)))))
    have HC := Lib.hid (right_any A l c (w.alloc (.cells #[.int .i64 n] 3)) hl ((hA.below hb0).more hb0.size))
    have HO := Lib.hid hok
    clear hA hok hl
    refine (callsIn_wide (n := 9)).1 ?_
    refine callsIn_of_wp_marks Try.func10 rfl trivial ?_
    simp only [Try.ntmps10, List.size_toArray, List.length_cons, List.length_nil, Nat.reduceAdd, Nat.reduceSub, Array.replicate_succ, Array.replicate_zero, List.push_toArray, List.append_toArray, List.nil_append, List.cons_append]
    cases hr : rightV l with
    | false =>
      have HR := Lib.hid hr
      clear hr
      gi_wp2_with (gi_at_call 13; refine (callsIn_wide.2 HC.out).mono ?_; rw [HR.out]; rintro e w1 ⟨rfl, hb1⟩)
      refine ⟨_, results_tmp2 rfl _ _ _, .slice none 0 0, ?_, ?_, hb0.trans (hb1.mono (by simp))⟩
      · rw [orderV, if_pos HR.out]; rfl
      · rw [orderV, if_pos HR.out]; exact World.ownsRow_nil _ _ _ _
    | true =>
      have HR := Lib.hid hr
      clear hr
      by_cases h0 : n = 0
      · subst h0
        gi_wp2_with (gi_at_call 13; refine (callsIn_wide.2 HC.out).mono ?_; rw [HR.out]; rintro e w1 ⟨rfl, hb1⟩; have hcN : w1.cell? ⟨w.heap.size, 0, none⟩ = some (.int .i64 0) := (hb1.cell (p := ⟨w.heap.size, 0, none⟩) (by simp)).trans (by simp))
        have HO0 : orderV l 0 = ([], 0) := by rw [orderV, if_neg (by simp [HR.out]), if_neg (by omega)]; rfl
        refine ⟨_, results_tmp2 rfl _ _ _, .slice none 0 0, ?_, ?_, hb0.trans (hb1.mono (by simp))⟩
        · rw [HO0]; rfl
        · rw [HO0]; exact World.ownsRow_nil _ _ _ _
      · have hn : n < 0 ∨ 4096 < n := by
          have := HO.out
          rw [HR.out] at this
          simp at this
          omega
        have ho : orderV l n = ([], 81) := by rw [orderV, if_neg (by simp [HR.out]), if_pos hn]
        have HOV := Lib.hid ho
        clear ho h0
        rcases hn with hn | hn
        · gi_wp2_with (gi_at_call 13; refine (callsIn_wide.2 HC.out).mono ?_; rw [HR.out]; rintro e w1 ⟨rfl, hb1⟩; have hcN : w1.cell? ⟨w.heap.size, 0, none⟩ = some (.int .i64 n) := (hb1.cell (p := ⟨w.heap.size, 0, none⟩) (by simp)).trans (by simp))
          refine ⟨_, results_tmp2 rfl _ _ _, .slice none 0 0, ?_, ?_, hb0.trans (hb1.mono (by simp))⟩
          · rw [HOV.out]; rfl
          · rw [HOV.out]; exact World.ownsRow_nil _ _ _ _
        · have hn' : ¬ n < 0 := by omega
          gi_wp2_with (gi_at_call 13; refine (callsIn_wide.2 HC.out).mono ?_; rw [HR.out]; rintro e w1 ⟨rfl, hb1⟩; have hcN : w1.cell? ⟨w.heap.size, 0, none⟩ = some (.int .i64 n) := (hb1.cell (p := ⟨w.heap.size, 0, none⟩) (by simp)).trans (by simp))
          refine ⟨_, results_tmp2 rfl _ _ _, .slice none 0 0, ?_, ?_, hb0.trans (hb1.mono (by simp))⟩
          · rw [HOV.out]; rfl
          · rw [HOV.out]; exact World.ownsRow_nil _ _ _ _
end Go.Proofs.Ytfnhlallfgfkkaa
