/- What this text proves: the contracts of the reference's tape: New, last, Read, Safe, Calls, Pick. The conditions are how the values lie in memory. -/
import Derived.Test.YtfgjpmbbfilemaaTape
import Derived.Test.YtfgjpmbbfilemaaTapeCut
import Derived.Handy
namespace Go.Proofs.Ytfgjpmbbfilemaa
open Go.RowKit
set_option linter.unusedVariables false
set_option linter.unusedSimpArgs false

/-- A tape of the reference at block m, with what it was behind each call; lv: the slice of it. -/
structure RefAt (w : World) (m : Nat) (lv : Value) (l : List (List UInt8 × Nat)) : Prop where
  bk : Bk w m 58 #[lv]
  own : ∃ cs, w.ownsRow 0 55 2 lv l.length cs ∧ StepsRd w cs l
  ok : ∀ s ∈ l, okStep s

theorem RefAt.moves {X : Nat → Obj → Prop} {w w' : World} {m : Nat} {lv : Value} {l : List (List UInt8 × Nat)} (h : RefAt w m lv l) (hm : Moves X w w')
    (h1 : ∀ o, ¬ X m o) (h2 : ∀ k o, lv.ownBlock = some k → ¬ X k o) (h3 : ∀ k cur, k < w.heap.size → w.heap[k]? = some (.cells cur 5 (0, 0)) → ¬ X k (.cells cur 5 (0, 0))) : RefAt w' m lv l := by
  obtain ⟨b1, ⟨cs, o1, o2, o3⟩, k3⟩ := h
  refine ⟨hm.bk b1 (h1 _), ⟨cs, ?_, o2, fun i s hs => ?_⟩, k3⟩
  · refine ⟨o1.1, ?_⟩
    rcases o1.2 with hn | ⟨g, cap, cur, hv, hb, hg, rest⟩
    · exact .inl hn
    · exact .inr ⟨g, cap, cur, hv, hb, hm.block g _ hg (h2 g _ (by rw [hv]; rfl)), rest⟩
  · obtain ⟨v, a, b, c⟩ := o3 i s hs
    exact ⟨v, a, b, c.moves hm h3⟩
theorem RefAt.below {B : Nat} {w w' : World} {m : Nat} {lv : Value} {l : List (List UInt8 × Nat)} (h : RefAt w m lv l) (hb : Below B w w') (hB : w.heap.size ≤ B) : RefAt w' m lv l :=
  h.moves (Moves.below (fun _ _ => False) hb hB) (fun _ h => h) (fun _ _ _ h => h) (fun _ _ _ _ h => h)

/-- How an element lies. -/
theorem RefAt.elem {w : World} {m : Nat} {lv : Value} {l : List (List UInt8 × Nat)} (h : RefAt w m lv l) {i : Nat} {s : List UInt8 × Nat} (hs : l[i]? = some s) :
    ∃ b off C A c, lv = .slice (some ⟨b, off, none⟩) l.length C ∧ b < w.heap.size ∧ C ≤ maxLen ∧ l.length ≤ C ∧ w.cell? ⟨b, off + i * 2, none⟩ = some (.slice A s.1.length c) ∧ w.cell? ⟨b, off + i * 2 + 1, none⟩ = some (.int .i64 (s.2 : Int)) ∧ Rd 5 w (.slice A s.1.length c) (bts s.1) ∧ s.1.length ≤ c ∧ c ≤ maxLen ∧ okStep s := by
  obtain ⟨cs, o1, o2⟩ := h.own
  obtain ⟨AS, cS, rfl, hS1, hS2, hSs⟩ := own_sl o1
  have hi : i < l.length := (List.getElem?_eq_some_iff.1 hs).1
  obtain ⟨v, x1, x2, x3⟩ := o2.2 i s hs
  obtain ⟨b, off, hA, hb, hc⟩ := hSs.at_ (by omega)
  obtain ⟨A, c, rfl, hc1, hc2, _⟩ := x3.sl
  rw [bts_len] at x1 x3 hc1
  subst hA
  exact ⟨b, off, cS, A, c, rfl, hb, hS2, hS1, hc _ _ x1, by rw [Nat.add_assoc]; exact hc _ _ x2, x3, hc1, hc2, h.ok s (List.mem_of_getElem? hs)⟩

theorem pick_any (c n : Int) (w : World) (hn : 0 < n) (hn2 : n ≤ 9223372036854775807) (hc : -9223372036854775808 ≤ c) (hc2 : c ≤ 9223372036854775807) :
    Calls Try.prog 24 #[.int .i64 c, .int .i64 n] w fun e w' => e = .returned (.int .i64 (pickI c n)) ∧ w = w' := by
  by_cases h : c < 0
  · have e1 : IntKind.i64.wrap (c + 1) = c + 1 := IntWalk.i64_in _ (by omega)
    have e2 : IntKind.i64.wrap (-(c + 1)) = -(c + 1) := IntWalk.i64_in _ (by omega)
    go_enter Try.func24, Try.ntmps24
    go_wp2
    go_ret
    exact ⟨ret_int (by rw [pickI, if_pos (by omega), ← Int.neg_tmod, Int.tmod_eq_emod_of_nonneg (by omega)]), rfl⟩
  · have e1 : 0 ≤ c := by omega
    go_enter Try.func24, Try.ntmps24
    go_wp2
    go_ret
    exact ⟨ret_int (by rw [pickI, if_neg (by omega)]), rfl⟩

set_option maxHeartbeats 1000000 in
theorem rlast_any (m : Nat) (lv : Value) (l : List (List UInt8 × Nat)) (s : List UInt8 × Nat) (k : Nat) (w : World) (h : RefAt w m lv l) (hk : l.length = k + 1) (hk2 : k ≤ 1000000) (hs : l[k]? = some s) :
    Calls Try.prog 31 #[.pointer (some ⟨m, 0, none⟩)] w fun e w' => ∃ A c, e = .returned (.agg #[.slice A s.1.length c, .int .i64 (s.2 : Int)]) ∧ Rd 5 w (.slice A s.1.length c) (bts s.1) ∧ Below w.heap.size w w' := by
  obtain ⟨b, off, C, A, c, rfl, hbl, hC1, hC2, x0, x1, x2, hc1, hc2, _⟩ := h.elem hs
  have y0 : (w.alloc (.cells #[.slice none 0 0, .int .i64 0] 55)).cell? ⟨b, off + k * 2, none⟩ = some (.slice A s.1.length c) := (World.cell?_alloc_lt w _ _ hbl).trans x0
  have y1 : (w.alloc (.cells #[.slice none 0 0, .int .i64 0] 55)).cell? ⟨b, off + k * 2 + 1, none⟩ = some (.int .i64 (s.2 : Int)) := (World.cell?_alloc_lt w _ ⟨b, off + k * 2 + 1, none⟩ hbl).trans x1
  have c0 := (h.bk.alloc (.cells #[.slice none 0 0, .int .i64 0] 55)).cell 0
  rw [hk] at c0 hC2
  have HX := Lib.hid x2
  have e1 : IntKind.i64.wrap ((k : Int) + 1 - 1) = (k : Int) := by rw [show (k : Int) + 1 - 1 = k from by omega]; exact IntWalk.i64_in _ (by omega)
  have e2 : IntKind.i64.wrap (k : Int) = (k : Int) := IntWalk.i64_in _ (by omega)
  have k1 : (k : Int) < (k : Int) + 1 := by omega
  clear h hk hs x2 x0 x1
  go_enter Try.func31, Try.ntmps31
  go_wp2_with fail
  have hbk := Bk.new w 55 #[.slice none 0 0, .int .i64 0]
  have hW0 : Below w.heap.size w (w.alloc (.cells #[.slice none 0 0, .int .i64 0] 55)) := (by (first | assumption | (repeat (first | exact Below.refl _ _ | assumption | apply Below.drew | apply below_drewN | (refine Below.setCell ?_ (by (try simp) <;> omega) _) | (refine Below.alloc ?_ (by (try simp) <;> omega) _)))))
  obtain ⟨W, hW⟩ : ∃ W, w.alloc (.cells #[.slice none 0 0, .int .i64 0] 55) = W := ⟨_, rfl⟩
  rw [hW] at c0 y0 y1 hbk hW0 ⊢
  clear hW
  have g0 := hbk.frozen 0
  have g1 := hbk.frozen 1
  have d0 := hbk.cell 0
  have d1 := hbk.cell 1
  have hWl := hbk.lt
  have hbk2 := (hbk.set_ 0 (.slice A s.1.length c)).set_ 1 (.int .i64 (s.2 : Int))
  have hB2 : Below w.heap.size w ((W.setCell ⟨w.heap.size, 0, none⟩ (.slice A s.1.length c)).setCell ⟨w.heap.size, 1, none⟩ (.int .i64 (s.2 : Int))).drew := (by (first | assumption | (repeat (first | exact Below.refl _ _ | assumption | apply Below.drew | apply below_drewN | (refine Below.setCell ?_ (by (try simp) <;> omega) _) | (refine Below.alloc ?_ (by (try simp) <;> omega) _)))))
  have hbk3 := hbk2.drew
  clear hbk hbk2
  go_still_tail 12, (by kernel_rfl)
  change wpList _ _ _ _ _ W.drew
  go_wp2_with fail
  obtain ⟨W2, hW2⟩ : ∃ W2, ((W.setCell ⟨w.heap.size, 0, none⟩ (.slice A s.1.length c)).setCell ⟨w.heap.size, 1, none⟩ (.int .i64 (s.2 : Int))).drew = W2 := ⟨_, rfl⟩
  rw [hW2] at hbk3 hB2 ⊢
  clear hW2
  have z0 := hbk3.cell 0
  have z1 := hbk3.cell 1
  (try simp only [Exit.inBlock, Exit.then])
  refine bodyPost_ret (v := .agg #[.slice A s.1.length c, .int .i64 (s.2 : Int)]) (by simp [results, Try.results31, go_sem, z0, z1]) rfl ?_
  exact ⟨A, c, rfl, HX.out, hB2⟩
end Go.Proofs.Ytfgjpmbbfilemaa
