/- What this text proves: the contracts of the reference tape's Read, Safe, Calls, Sync, Trim. The conditions are how the values lie in memory. -/
import Derived.Test.YtfgjpmbbfilemaaTapeRef
namespace Go.Proofs.Ytfgjpmbbfilemaa
open Go.RowKit
set_option linter.unusedVariables false
set_option linter.unusedSimpArgs false

theorem info_was : (Try.prog.info? 55).map (fun i => (i.zero, i.size, i.bytes)) = some (some (.agg #[.slice none 0 0, .int .i64 0]), 2, 32) := by kernel_rfl

theorem field_was0 (x y : Value) (W : World) : (Instr.field 55 (.agg #[x, y]) 0).run Try.prog W = .ok x W := by rfl
theorem field_was1 (x y : Value) (W : World) : (Instr.field 55 (.agg #[x, y]) 1).run Try.prog W = .ok y W := by rfl

set_option maxHeartbeats 1000000 in
theorem rread_any (m : Nat) (lv : Value) (l : List (List UInt8 × Nat)) (s : List UInt8 × Nat) (k : Nat) (w : World) (h : RefAt w m lv l) (hk : l.length = k + 1) (hk2 : k ≤ 1000000) (hs : l[k]? = some s) :
    Calls Try.prog 25 #[.pointer (some ⟨m, 0, none⟩)] w fun e w' => ∃ A c, e = .returned (.slice A s.1.length c) ∧ Rd 5 w (.slice A s.1.length c) (bts s.1) ∧ Below w.heap.size w w' := by
  have HL := Lib.hid (rlast_any m lv l s k w h hk hk2 hs)
  clear h hk hs
  have hf0 := field_was0
  have hf1 := field_was1
  go_enter Try.func25, Try.ntmps25
  go_wp2_with fail
  with_reducible refine HL.out.mono ?_
  rintro e w1 ⟨A, c, rfl, hr, hb⟩
  have HR := Lib.hid hr
  clear hr
  go_wp2_with fail
  go_ret
  exact ⟨A, c, rfl, HR.out, hb⟩

set_option maxHeartbeats 1000000 in
theorem rsafe_any (m : Nat) (lv : Value) (l : List (List UInt8 × Nat)) (s : List UInt8 × Nat) (k : Nat) (w : World) (h : RefAt w m lv l) (hk : l.length = k + 1) (hk2 : k ≤ 1000000) (hs : l[k]? = some s) :
    Calls Try.prog 26 #[.pointer (some ⟨m, 0, none⟩)] w fun e w' => e = .returned (.int .i64 (s.2 : Int)) ∧ Below w.heap.size w w' := by
  have HL := Lib.hid (rlast_any m lv l s k w h hk hk2 hs)
  clear h hk hs
  have hf0 := field_was0
  have hf1 := field_was1
  go_enter Try.func26, Try.ntmps26
  go_wp2_with fail
  with_reducible refine HL.out.mono ?_
  rintro e w1 ⟨A, c, rfl, hr, hb⟩
  clear hr
  go_wp2_with fail
  go_ret
  exact ⟨rfl, hb⟩

set_option maxHeartbeats 1000000 in
theorem rcalls_any (m : Nat) (lv : Value) (l : List (List UInt8 × Nat)) (k : Nat) (w : World) (h : RefAt w m lv l) (hk : l.length = k + 1) (hk2 : k ≤ 1000000) :
    Calls Try.prog 27 #[.pointer (some ⟨m, 0, none⟩)] w fun e w' => e = .returned (.int .i64 (k : Int)) ∧ Below w.heap.size w w' := by
  obtain ⟨cs, o1, _⟩ := h.own
  obtain ⟨A, c, rfl, _, _, _⟩ := own_sl o1
  have c0 := h.bk.cell 0
  rw [hk] at c0
  have e1 : IntKind.i64.wrap ((k : Int) + 1 - 1) = (k : Int) := by rw [show (k : Int) + 1 - 1 = k from by omega]; exact IntWalk.i64_in _ (by omega)
  have e2 : IntKind.i64.wrap (k : Int) = (k : Int) := IntWalk.i64_in _ (by omega)
  clear h o1 hk
  go_enter Try.func27, Try.ntmps27
  go_wp2
  go_ret
  exact ⟨rfl, (by (first | assumption | (repeat (first | exact Below.refl _ _ | assumption | apply Below.drew | apply below_drewN | (refine Below.setCell ?_ (by (try simp) <;> omega) _) | (refine Below.alloc ?_ (by (try simp) <;> omega) _)))))⟩

/-- What a call that was done leaves. -/
def RDid (w : World) (m : Nat) (lv : Value) (l : List (List UInt8 × Nat)) (s : List UInt8 × Nat) (e : Ending) (w' : World) : Prop :=
  ∃ lv', e = .returned (.int .i64 0) ∧ RefAt w' m lv' (l ++ [s]) ∧ Moves (TapeX m lv) w w' ∧ ∀ k, lv'.ownBlock = some k → lv.ownBlock = some k ∨ w.heap.size ≤ k

theorem RefAt.done {w w' : World} {m : Nat} {lv lv' b : Value} {s : List UInt8 × Nat} {l : List (List UInt8 × Nat)} {cs : List Value} (h : RefAt w m lv l) (hcs : w.ownsRow 0 55 2 lv l.length cs) (hst : StepsRd w cs l)
    (hb : Rd 5 w b (bts s.1)) (hs : okStep s) (h1 : Bk w' m 58 #[lv']) (h2 : w'.ownsRow 0 55 2 lv' (l.length + 1) (cs ++ [b, .int .i64 (s.2 : Int)])) (hm : Moves (TapeX m lv) w w') : RefAt w' m lv' (l ++ [s]) := by
  have b1 := h.bk
  have hx : ∀ k cur, k < w.heap.size → w.heap[k]? = some (.cells cur 5 (0, 0)) → ¬ TapeX m lv k (.cells cur 5 (0, 0)) := by
    rintro k cur _ hk (rfl | hk')
    · exact Bk.ne_ b1 hk (by decide) rfl
    · obtain ⟨_, _, cur', hc⟩ := own_cells hcs hk'.symm
      exact Bk.ne_ (g := k) hc hk (by decide) rfl
  refine ⟨h1, ⟨_, by simpa using h2, by simp [hst.1]; omega, fun i t ht => ?_⟩, fun t ht => ?_⟩
  · by_cases hi : i < l.length
    · rw [List.getElem?_append_left hi] at ht
      obtain ⟨v, a, c, d⟩ := hst.2 i t ht
      have hl := hst.1
      exact ⟨v, by rw [List.getElem?_append_left (by omega)]; exact a, by rw [List.getElem?_append_left (by omega)]; exact c, d.moves hm hx⟩
    · have hi' : i = l.length := by
        have := (List.getElem?_eq_some_iff.1 ht).1
        simp at this
        omega
      subst hi'
      rw [List.getElem?_append_right (Nat.le_refl _)] at ht
      simp at ht
      subst ht
      have hl := hst.1
      exact ⟨b, by rw [List.getElem?_append_right (by omega)]; simp [hl], by rw [List.getElem?_append_right (by omega)]; simp [hl], hb.moves hm hx⟩
  · rcases List.mem_append.1 ht with ht | ht
    · exact h.ok t ht
    · simp at ht; subst ht; exact hs

/-- Behind the call of 'last' and the laying of its answer into a variable. -/
theorem behind_last {w w1 : World} {m : Nat} {lv : Value} {l : List (List UInt8 × Nat)} (h : RefAt w m lv l) (hb : Below w.heap.size w w1) (x y : Value) :
    Below w.heap.size w (w1.alloc (.cells #[x, y] 55)) ∧ Bk (w1.alloc (.cells #[x, y] 55)) w1.heap.size 55 #[x, y] ∧ RefAt (w1.alloc (.cells #[x, y] 55)) m lv l := by
  have hsz := hb.size
  have hB : Below w.heap.size w (w1.alloc (.cells #[x, y] 55)) := (by (first | assumption | (repeat (first | exact Below.refl _ _ | assumption | apply Below.drew | apply below_drewN | (refine Below.setCell ?_ (by (try simp) <;> omega) _) | (refine Below.alloc ?_ (by (try simp) <;> omega) _)))))
  exact ⟨hB, Bk.new w1 _ _, h.below hB (Nat.le_refl _)⟩

set_option maxRecDepth 100000 in
set_option maxHeartbeats 2000000 in
theorem rsync_any (m : Nat) (lv : Value) (l : List (List UInt8 × Nat)) (s : List UInt8 × Nat) (k : Nat) (w : World) (h : RefAt w m lv l) (hk : l.length = k + 1) (hk2 : k ≤ 1000000) (hs : l[k]? = some s) :
    Calls Try.prog 29 #[.pointer (some ⟨m, 0, none⟩)] w (RDid w m lv l (s.1, s.1.length)) := by
  obtain ⟨i0, hi, hz0, hz1, hz2⟩ := info_parts info_was
  have HL := Lib.hid (rlast_any m lv l s k w h hk hk2 hs)
  have hok := h.ok s (List.mem_of_getElem? hs)
  have H := Lib.hid h
  clear h hs
  go_enter Try.func29, Try.ntmps29
  go_wp2_with fail
  with_reducible refine HL.out.mono ?_
  rintro e w1 ⟨A, c, rfl, hr, hb⟩
  go_wp2_with fail
  obtain ⟨hB, hq, hR⟩ := behind_last H.out hb (.slice A s.1.length c) (.int .i64 (s.2 : Int))
  have hq1 := hb.size
  have hr1 := hr.below hB (Nat.le_refl _)
  clear hr HL H
  obtain ⟨W, hW⟩ : ∃ W, w1.alloc (.cells #[.slice A s.1.length c, .int .i64 (s.2 : Int)] 55) = W := ⟨_, rfl⟩
  rw [hW] at hB hq hR hr1 ⊢
  clear hW
  obtain ⟨q, hqe⟩ : ∃ q, w1.heap.size = q := ⟨_, rfl⟩
  rw [hqe] at hq hq1 ⊢
  clear hb hqe
  obtain ⟨xs, ho1, hst⟩ := hR.own
  have hp1 := hR.bk
  have hne : some m ≠ lv.ownBlock := own_ne ho1 hp1 (by decide)
  have hnb : some W.heap.size ≠ lv.ownBlock := fun e => by have := (own_cells ho1 e.symm).2.1; omega
  have HF := Lib.hid (fun (lv' : Value) (w' : World) => RefAt.done (w := W) (w' := w') (lv' := lv') (s := (s.1, s.1.length)) hR ho1 hst hr1 ⟨hok.1, Nat.le_refl _⟩)
  obtain ⟨AS, cS, rfl, _, _, _⟩ := own_sl ho1
  have c0 := hp1.cell 0
  have f0 := hp1.frozen 0
  have d0 := hq.cell 0
  have hpl := hp1.lt
  have hql := hq.lt
  have hll := hok.1
  have hB' := hB.size
  rw [hk] at c0 ho1 hne hnb hp1 HF ⊢
  clear hq
  go_region_law (first
    | (refine step_append_lies _ (by rfl) _ _ _ (by rfl) 0 55 i0 _ 2 32 Try.underlying56 hi hz0 hz1 hz2 rfl (by omega) _ (k + 1) xs (by rfl) ((ho1.alloc _).drew)
        ⟨W.heap.size, 0, none⟩ 1 1 [.slice A s.1.length c, .int .i64 (s.1.length : Int)] (by rfl) (by rfl) (World.news_of_block (cs := #[.slice A s.1.length c, .int .i64 (s.1.length : Int)]) (t := 55) (fr := (0, 0)) (heap_alloc_new W _)) (by simp [Value.oneCell'])
        (by omega) (by unfold maxLen; omega) (by omega) (by simp) (W.heap.size + 1) (by simp) ?_; intro gg cap w2 hown2 hgrow hat hlt; have hp2 := (hp1.alloc (.cells #[.slice A s.1.length c, .int .i64 (s.1.length : Int)] 55)).drew.grown hgrow hne; have f2 := hp2.frozen 0; have c2 := hp2.cell 0))
  all_goals
    go_wp2_with fail
    go_ret
    have hmv : Moves (TapeX m (.slice AS (k + 1) cS)) W (w2.setCell ⟨m, 0, none⟩ (.slice (some ⟨gg, 0, none⟩) (k + 1 + 1) cap)) := by
      have m1 := Moves.alloc (TapeX m (.slice AS (k + 1) cS)) W (.cells #[.slice A s.1.length c, .int .i64 (s.1.length : Int)] 55)
      have m2 := Moves.drew (TapeX m (.slice AS (k + 1) cS)) (W.alloc (.cells #[.slice A s.1.length c, .int .i64 (s.1.length : Int)] 55))
      have m3 := Moves.grown (X := TapeX m (.slice AS (k + 1) cS)) hgrow (fun k o e => .inr e)
      have m4 := Moves.setCell (X := TapeX m (.slice AS (k + 1) cS)) w2 ⟨m, 0, none⟩ (.slice (some ⟨gg, 0, none⟩) (k + 1 + 1) cap) (fun o _ => .inl rfl)
      exact ((m1.trans_ m2 (fun _ _ _ h => h)).trans_ m3 (fun _ _ _ h => h)).trans_ m4 (fun _ _ _ h => h)
    refine ⟨.slice (some ⟨gg, 0, none⟩) (k + 1 + 1) cap, rfl, HF.out _ _ (hp2.set_ 0 _) ?_ hmv, (Moves.below (TapeX m (.slice AS (k + 1) cS)) hB (Nat.le_refl _)).trans_ hmv (fun _ _ _ h => h), ?_⟩
    · exact own_far hown2 (p := ⟨m, 0, none⟩) (own_ne hown2 hp2 (by decide)) _
    · intro j hj
      simp only [Value.ownBlock, Option.some.injEq] at hj
      subst hj
      rcases hat with h | h
      · exact .inl h
      · exact .inr (by omega)
end Go.Proofs.Ytfgjpmbbfilemaa
