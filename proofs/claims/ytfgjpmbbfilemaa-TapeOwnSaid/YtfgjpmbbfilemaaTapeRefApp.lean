/- What this text proves: the contract of the reference tape's Append. The conditions are how the values lie in memory. -/
import Derived.Test.YtfgjpmbbfilemaaTapeRefDo
import Derived.Test.YtfgjpmbbfilemaaAppendSl
namespace Go.Proofs.Ytfgjpmbbfilemaa
open Go.RowKit
set_option linter.unusedVariables false
set_option linter.unusedSimpArgs false

set_option maxRecDepth 100000 in
set_option maxHeartbeats 2000000 in
theorem rappend_ok (m : Nat) (lv : Value) (l : List (List UInt8 × Nat)) (s : List UInt8 × Nat) (k M : Nat) (A' : Option Addr) (ys : List UInt8) (c' : Nat) (w : World) (h : RefAt w m lv l) (hk : l.length = k + 1) (hk2 : k ≤ 1000000) (hs : l[k]? = some s) (hM : ys.length = M) (hm : s.1.length + M ≤ 1048576) (hs' : Sl w w.heap.size 1 A' M (bts ys)) :
    Calls Try.prog 28 #[.pointer (some ⟨m, 0, none⟩), .slice A' M c'] w (RDid w m lv l (s.1 ++ ys, s.2)) := by
  obtain ⟨i0, hi, hz0, hz1, hz2⟩ := info_parts info_was
  obtain ⟨i5, hi5, hy0, hy1, hy2⟩ := info_parts info_u8
  have HL := Lib.hid (rlast_any m lv l s k w h hk hk2 hs)
  have hok := h.ok s (List.mem_of_getElem? hs)
  have H := Lib.hid h
  clear h hs
  go_enter Try.func28, Try.ntmps28
  go_wp2_with fail
  with_reducible refine HL.out.mono ?_
  rintro e w1 ⟨A, c, rfl, hr, hb⟩
  have e1 : IntKind.i64.wrap ((1048576 : Int) - s.1.length) = (1048576 : Int) - s.1.length := IntWalk.i64_in _ (by omega)
  have e2 : decide ((1048576 : Int) - s.1.length < M) = false := by simp; omega
  have HR := Lib.hid hr
  have hrs := hr.sl
  obtain ⟨A2, c2, hA2, hcl, hcm, hsl⟩ := hrs
  rw [bts_len] at hA2 hsl hcl
  injection hA2 with g1 g0 g2
  subst g1 g2
  clear g0 hr hcl hcm
  have hsz1 := hb.size
  have hWa : Below w.heap.size w ((w1.alloc (.cells #[.slice A s.1.length c, .int .i64 (s.2 : Int)] 55)).alloc (.cells #[] 5)) := (by (first | assumption | (repeat (first | exact Below.refl _ _ | assumption | apply Below.drew | apply below_drewN | (refine Below.setCell ?_ (by (try simp) <;> omega) _) | (refine Below.alloc ?_ (by (try simp) <;> omega) _)))))
  have HS1 := Lib.hid (hsl.below hWa |>.more hWa.size)
  have hown0 : ((w1.alloc (.cells #[.slice A s.1.length c, .int .i64 (s.2 : Int)] 55)).alloc (.cells #[] 5)).ownsRow (w1.heap.size + 1) 5 1 (.slice (some ⟨w1.heap.size + 1, 0, none⟩) 0 0) 0 [] := by
    refine ⟨rfl, .inr ⟨w1.heap.size + 1, 0, #[], rfl, Nat.le_refl _, ?_, Nat.le_refl _, by simp [maxLen], rfl, rfl⟩⟩
    have := heap_alloc_new (w1.alloc (.cells #[.slice A s.1.length c, .int .i64 (s.2 : Int)] 55)) (.cells #[] 5)
    simpa using this
  have HO := Lib.hid hown0
  have HM := Lib.hid (fun (w2 : World) (hg : Below w.heap.size w w2) => (hs'.below hg).more hg.size)
  have hq0 := Bk.new w1 55 #[.slice A s.1.length c, .int .i64 (s.2 : Int)]
  clear hsl hown0 hs'
  go_wp2_with (at_builtin; first
    | (refine wpList_append_sl ((w1.alloc (.cells #[.slice A s.1.length c, .int .i64 (s.2 : Int)] 55)).alloc (.cells #[] 5)) rfl _ _ 22 rfl (w1.heap.size + 1) 5 i5 _ 1 1 Try.underlying22 hi5 hy0 hy1 hy2 rfl (by omega) (.slice (some ⟨w1.heap.size + 1, 0, none⟩) 0 0) 0 [] rfl HO.out A s.1.length c (bts s.1) rfl HS1.out bts_one (by unfold maxLen; omega) (by omega) (by simp) ?_; intro v1 w2 o1 g1 q1; have hb2 : Below w.heap.size w w2 := hWa.grown g1 (by have := hWa.size; omega) (fun k e => by simp only [Value.ownBlock, Option.some.injEq] at e; omega); have hsz2 := g1.size)
    | (refine wpList_append_sl w2 rfl _ _ 22 rfl (w1.heap.size + 1) 5 i5 _ 1 1 Try.underlying22 hi5 hy0 hy1 hy2 rfl (by omega) v1 (0 + s.1.length) ([] ++ bts s.1) rfl o1 A' M c' (bts ys) rfl (HM.out w2 hb2) bts_one (by unfold maxLen; omega) (by omega) (by simp at hsz2; omega) ?_; intro v2 W o2 g2 q2))
  have hsz3 := g2.size
  have hb3 : Below (w1.heap.size + 1) ((w1.alloc (.cells #[.slice A s.1.length c, .int .i64 (s.2 : Int)] 55)).alloc (.cells #[] 5)) W := by
    refine ((Below.refl _ _).grown g1 (by simp) (fun k e => ?_)).grown g2 (by simp at hsz2; omega) (fun k e => ?_)
    · simp only [Value.ownBlock, Option.some.injEq] at e; omega
    · rcases q1 with h | h
      · rw [h] at e; simp only [Value.ownBlock, Option.some.injEq] at e; omega
      · rw [h] at e; simp at e; omega
  have hB : Below w.heap.size w W := hWa.trans (hb3.mono (by omega))
  have hq := (hq0.alloc (.cells #[] 5)).below hb3 (by omega)
  have hR := H.out.below hB (Nat.le_refl _)
  have hr1 : Rd 5 W v2 (bts (s.1 ++ ys)) := by
    have := Rd.of_own o2
    rw [bts_app]
    simpa using this
  obtain ⟨A2, cz, hv2, hc3, hc4, _⟩ := hr1.sl
  subst hv2
  clear hb3 o1 o2 g1 g2 q1 q2 hq0 hWa hb2 HL HO HM HS1 hb HR H
  obtain ⟨q, hqe⟩ : ∃ q, w1.heap.size = q := ⟨_, rfl⟩
  rw [hqe] at hq ⊢
  clear hqe
  obtain ⟨xs, ho1, hst⟩ := hR.own
  have hp1 := hR.bk
  have hne : some m ≠ lv.ownBlock := own_ne ho1 hp1 (by decide)
  have hnb : some W.heap.size ≠ lv.ownBlock := fun e => by have := (own_cells ho1 e.symm).2.1; omega
  have HF := Lib.hid (fun (lv' : Value) (w' : World) => RefAt.done (w := W) (w' := w') (lv' := lv') (s := (s.1 ++ ys, s.2)) hR ho1 hst hr1 ⟨by simp; omega, by have := hok.2; simp; omega⟩)
  obtain ⟨AS, cS, rfl, _, _, _⟩ := own_sl ho1
  obtain ⟨c0, hc0⟩ : ∃ c0, (bts (s.1 ++ ys)).length = c0 := ⟨_, rfl⟩
  rw [hc0] at HF ⊢
  clear hc0 hr1
  have c00 := hp1.cell 0
  have f0 := hp1.frozen 0
  have d1 := hq.cell 1
  have hpl := hp1.lt
  have hql := hq.lt
  have hB' := hB.size
  rw [hk] at c00 ho1 hne hnb hp1 HF ⊢
  clear hq
  go_region_law (first
    | (refine step_append_lies _ (by rfl) _ _ _ (by rfl) 0 55 i0 _ 2 32 Try.underlying56 hi hz0 hz1 hz2 rfl (by omega) _ (k + 1) xs (by rfl) ((ho1.alloc _).drew)
        ⟨W.heap.size, 0, none⟩ 1 1 [.slice A2 c0 cz, .int .i64 (s.2 : Int)] (by rfl) (by rfl) (World.news_of_block (cs := #[.slice A2 c0 cz, .int .i64 (s.2 : Int)]) (t := 55) (fr := (0, 0)) (heap_alloc_new W _)) (by simp [Value.oneCell'])
        (by omega) (by unfold maxLen; omega) (by omega) (by simp) (W.heap.size + 1) (by simp) ?_; intro gg cap w2 hown2 hgrow hat hlt; have hp2 := (hp1.alloc (.cells #[.slice A2 c0 cz, .int .i64 (s.2 : Int)] 55)).drew.grown hgrow hne; have f2 := hp2.frozen 0; have c2 := hp2.cell 0))
  all_goals
    go_wp2_with fail
    go_ret
    have hmv : Moves (TapeX m (.slice AS (k + 1) cS)) W (w2.setCell ⟨m, 0, none⟩ (.slice (some ⟨gg, 0, none⟩) (k + 1 + 1) cap)) := by
      have m1 := Moves.alloc (TapeX m (.slice AS (k + 1) cS)) W (.cells #[.slice A2 c0 cz, .int .i64 (s.2 : Int)] 55)
      have m2 := Moves.drew (TapeX m (.slice AS (k + 1) cS)) (W.alloc (.cells #[.slice A2 c0 cz, .int .i64 (s.2 : Int)] 55))
      have m3 := Moves.grown (X := TapeX m (.slice AS (k + 1) cS)) hgrow (fun k o e => .inr e)
      have m4 := Moves.setCell (X := TapeX m (.slice AS (k + 1) cS)) w2 ⟨m, 0, none⟩ (.slice (some ⟨gg, 0, none⟩) (k + 1 + 1) cap) (fun o _ => .inl rfl)
      exact ((m1.trans_ m2 (fun _ _ _ h => h)).trans_ m3 (fun _ _ _ h => h)).trans_ m4 (fun _ _ _ h => h)
    refine ⟨.slice (some ⟨gg, 0, none⟩) (k + 1 + 1) cap, rfl, HF.out _ _ (hp2.set_ 0 _) ?_ hmv, (Moves.below (TapeX m (.slice AS (k + 1) cS)) hB (Nat.le_refl _)).trans_ hmv (fun _ _ _ h => h), ?_⟩
    · exact own_far hown2 (p := ⟨m, 0, none⟩) (own_ne hown2 hp2 (by decide)) _
    · intro j hj
      simp only [Value.ownBlock, Option.some.injEq] at hj
      subst hj
      rcases hat with h | h
      · exact .inl h
      · exact .inr (by omega)
end Go.Proofs.Ytfgjpmbbfilemaa
