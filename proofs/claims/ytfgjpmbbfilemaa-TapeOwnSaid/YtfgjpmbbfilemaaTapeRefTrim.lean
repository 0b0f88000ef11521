/- What this text proves: the contract of the reference tape's Trim. The conditions are how the values lie in memory. -/
import Derived.Test.YtfgjpmbbfilemaaTapeRefDo
namespace Go.Proofs.Ytfgjpmbbfilemaa
open Go.RowKit
set_option linter.unusedVariables false
set_option linter.unusedSimpArgs false

set_option maxHeartbeats 1000000 in
theorem rtrim_bad (m : Nat) (lv : Value) (l : List (List UInt8 × Nat)) (s : List UInt8 × Nat) (k : Nat) (t : Int) (w : World) (h : RefAt w m lv l) (hk : l.length = k + 1) (hk2 : k ≤ 1000000) (hs : l[k]? = some s) (ht : t < 0 ∨ (s.1.length : Int) < t) :
    Calls Try.prog 30 #[.pointer (some ⟨m, 0, none⟩), .int .i64 t] w fun e w' => e = .returned (.int .i64 1) ∧ Below w.heap.size w w' := by
  have HL := Lib.hid (rlast_any m lv l s k w h hk hk2 hs)
  clear h hk hs
  rcases ht with ht | ht
  · go_enter Try.func30, Try.ntmps30
    go_wp2_with fail
    with_reducible refine HL.out.mono ?_
    rintro e w1 ⟨A, c, rfl, hr, hb⟩
    clear hr
    have hb0 := hb.size
    go_wp2_with fail
    go_ret
    exact ⟨rfl, (by (first | assumption | (repeat (first | exact Below.refl _ _ | assumption | apply Below.drew | apply below_drewN | (refine Below.setCell ?_ (by (try simp) <;> omega) _) | (refine Below.alloc ?_ (by (try simp) <;> omega) _)))))⟩
  · have e1 : decide (t < 0) = false := by simp; omega
    go_enter Try.func30, Try.ntmps30
    go_wp2_with fail
    with_reducible refine HL.out.mono ?_
    rintro e w1 ⟨A, c, rfl, hr, hb⟩
    clear hr
    have hb0 := hb.size
    go_wp2_with fail
    go_ret
    exact ⟨rfl, (by (first | assumption | (repeat (first | exact Below.refl _ _ | assumption | apply Below.drew | apply below_drewN | (refine Below.setCell ?_ (by (try simp) <;> omega) _) | (refine Below.alloc ?_ (by (try simp) <;> omega) _)))))⟩

set_option maxRecDepth 100000 in
set_option maxHeartbeats 2000000 in
theorem rtrim_ok (m : Nat) (lv : Value) (l : List (List UInt8 × Nat)) (s : List UInt8 × Nat) (k t : Nat) (w : World) (h : RefAt w m lv l) (hk : l.length = k + 1) (hk2 : k ≤ 1000000) (hs : l[k]? = some s) (ht : t ≤ s.1.length) :
    Calls Try.prog 30 #[.pointer (some ⟨m, 0, none⟩), .int .i64 t] w (RDid w m lv l (s.1.take t, t)) := by
  obtain ⟨i0, hi, hz0, hz1, hz2⟩ := info_parts info_was
  have HL := Lib.hid (rlast_any m lv l s k w h hk hk2 hs)
  have hok := h.ok s (List.mem_of_getElem? hs)
  have H := Lib.hid h
  clear h hs
  have e1 : decide ((t : Int) < 0) = false := by simp
  have e2 : decide ((s.1.length : Int) < (t : Int)) = false := by simp; omega
  go_enter Try.func30, Try.ntmps30
  go_wp2_with fail
  with_reducible refine HL.out.mono ?_
  rintro e w1 ⟨A, c, rfl, hr, hb⟩
  go_wp2_with fail
  obtain ⟨hB, hq, hR⟩ := behind_last H.out hb (.slice A s.1.length c) (.int .i64 (s.2 : Int))
  have hq1 := hb.size
  have hr0 := hr.below hB (Nat.le_refl _)
  obtain ⟨A2, c2, hA2, hcl, hcm, _⟩ := hr.sl
  rw [bts_len] at hA2 hcl
  injection hA2 with g1 g0 g2
  subst g1 g2
  clear g0
  obtain ⟨A3, c3, hA3, hr1⟩ := hr0.take (k := t) (by rw [bts_len]; exact ht)
  rw [bts_len] at hA3
  injection hA3 with g1 g0 g2
  subst g1 g2
  clear g0 hr0
  rw [bts_take] at hr1
  unfold maxLen at hcm
  have k1 : (t : Int) ≤ (c : Int) := by omega
  clear hr HL H
  obtain ⟨W, hW⟩ : ∃ W, w1.alloc (.cells #[.slice A s.1.length c, .int .i64 (s.2 : Int)] 55) = W := ⟨_, rfl⟩
  rw [hW] at hB hq hR hr1 ⊢
  clear hW
  obtain ⟨q, hqe⟩ : ∃ q, w1.heap.size = q := ⟨_, rfl⟩
  rw [hqe] at hq hq1 ⊢
  clear hb hqe
  obtain ⟨xs, ho1, hst⟩ := hR.own
  have hp1 := hR.bk
  have hne : some m ≠ lv.ownBlock := own_ne ho1 hp1 (by decide)
  have hnb : some W.heap.size ≠ lv.ownBlock := fun e => by have := (own_cells ho1 e.symm).2.1; omega
  have HF := Lib.hid (fun (lv' : Value) (w' : World) => RefAt.done (w := W) (w' := w') (lv' := lv') (s := (s.1.take t, t)) hR ho1 hst hr1 ⟨by have := hok.1; simp; omega, by simp; omega⟩)
  obtain ⟨AS, cS, rfl, _, _, _⟩ := own_sl ho1
  have c0 := hp1.cell 0
  have f0 := hp1.frozen 0
  have d0 := hq.cell 0
  have hpl := hp1.lt
  have hql := hq.lt
  have hll := hok.1
  have hB' := hB.size
  rw [hk] at c0 ho1 hne hnb hp1 HF ⊢
  clear hq
  go_region_law (first
    | (refine step_append_lies _ (by rfl) _ _ _ (by rfl) 0 55 i0 _ 2 32 Try.underlying56 hi hz0 hz1 hz2 rfl (by omega) _ (k + 1) xs (by rfl) ((ho1.alloc _).drew)
        ⟨W.heap.size, 0, none⟩ 1 1 [.slice A t c, .int .i64 (t : Int)] (by rfl) (by rfl) (World.news_of_block (cs := #[.slice A t c, .int .i64 (t : Int)]) (t := 55) (fr := (0, 0)) (heap_alloc_new W _)) (by simp [Value.oneCell'])
        (by omega) (by unfold maxLen; omega) (by omega) (by simp) (W.heap.size + 1) (by simp) ?_; intro gg cap w2 hown2 hgrow hat hlt; have hp2 := (hp1.alloc (.cells #[.slice A t c, .int .i64 (t : Int)] 55)).drew.grown hgrow hne; have f2 := hp2.frozen 0; have c2 := hp2.cell 0))
  all_goals
    go_wp2_with fail
    go_ret
    have hmv : Moves (TapeX m (.slice AS (k + 1) cS)) W (w2.setCell ⟨m, 0, none⟩ (.slice (some ⟨gg, 0, none⟩) (k + 1 + 1) cap)) := by
      have m1 := Moves.alloc (TapeX m (.slice AS (k + 1) cS)) W (.cells #[.slice A t c, .int .i64 (t : Int)] 55)
      have m2 := Moves.drew (TapeX m (.slice AS (k + 1) cS)) (W.alloc (.cells #[.slice A t c, .int .i64 (t : Int)] 55))
      have m3 := Moves.grown (X := TapeX m (.slice AS (k + 1) cS)) hgrow (fun k o e => .inr e)
      have m4 := Moves.setCell (X := TapeX m (.slice AS (k + 1) cS)) w2 ⟨m, 0, none⟩ (.slice (some ⟨gg, 0, none⟩) (k + 1 + 1) cap) (fun o _ => .inl rfl)
      exact ((m1.trans_ m2 (fun _ _ _ h => h)).trans_ m3 (fun _ _ _ h => h)).trans_ m4 (fun _ _ _ h => h)
    refine ⟨.slice (some ⟨gg, 0, none⟩) (k + 1 + 1) cap, rfl, HF.out _ _ (hp2.set_ 0 _) ?_ hmv, (Moves.below (TapeX m (.slice AS (k + 1) cS)) hB (Nat.le_refl _)).trans_ hmv (fun _ _ _ h => h), ?_⟩
    · exact own_far hown2 (p := ⟨m, 0, none⟩) (own_ne hown2 hp2 (by decide)) _
    · intro j hj
      simp only [Value.ownBlock, Option.some.injEq] at hj
      subst hj
      rcases hat with h | h
      · exact .inl h
      · exact .inr (by omega)
end Go.Proofs.Ytfgjpmbbfilemaa
