/- What this text proves: the contracts of the tape's methods, over what a tape holds in memory. The conditions are the contracts' own premises: how a tape lies in memory, and that it has not too many steps. -/
import Derived.Test.YtpmmojjffjpmbaaDoorProg
import Derived.Test.YtpmmojjffjpmbaaDoorBase
import Derived.Test.YtpmmojjffjpmbaaDoorBytes
import Derived.BigQuiet
import Derived.Lib.SliceRun
import Derived.Deep.RegionHeld3
import Derived.Deep.RegionLaw
import Derived.Deep.AppendLies
import Derived.Maps.AppendAt
import Derived.StillTailTactics
import Derived.WalkSpells
import Derived.KernelRfl
namespace Go.Proofs.YtpmmojjffjpmbaaDoor
open Go.RowKit
set_option linter.unusedVariables false
set_option linter.unusedSimpArgs false

theorem info_step : (Tryd.prog.info? 55).map (fun i => (i.zero, i.size, i.bytes)) = some (some (.agg #[.slice none 0 0, .int .i64 0]), 2, 32) := by kernel_rfl

/-- Blocks that a tape's methods turn: its own, and its steps'. -/
def TapeX (p : Nat) (sv : Value) (k : Nat) (_ : Obj) : Prop := k = p ∨ some k = sv.ownBlock

set_option maxRecDepth 100000 in
set_option maxHeartbeats 1000000 in
theorem done_any (p n : Nat) (nb fb sv b : Value) (ns fs s : Int) (xs : List Value) (w : World) (hp : Bk w p 58 #[nb, .int .i64 ns, fb, .int .i64 fs, sv]) (ho : w.ownsRow 0 55 2 sv n xs) (hn : n ≤ 1000000)
    (A : Option Addr) (l c : Nat) (hb : b = .slice A l c) :
    Calls Tryd.prog 31 #[.pointer (some ⟨p, 0, none⟩), .agg #[b, .int .i64 s]] w fun e w' => ∃ sv', e = .returned (.int .i64 0) ∧
      Bk w' p 58 #[b, .int .i64 s, fb, .int .i64 fs, sv'] ∧ w'.ownsRow 0 55 2 sv' (n + 1) (xs ++ [b, .int .i64 s]) ∧ Moves (TapeX p sv) w w' ∧ ∀ k, sv'.ownBlock = some k → sv.ownBlock = some k ∨ w.heap.size ≤ k := by
  subst hb
  obtain ⟨i0, hi, hz0, hz1, hz2⟩ := info_parts info_step
  have c0 := hp.cell 0
  have c1 := hp.cell 1
  have c4 := hp.cell 4
  have f0 := hp.frozen 0
  have f1 := hp.frozen 1
  have f4 := hp.frozen 4
  have hpl := hp.lt
  go_enter Tryd.func31, Tryd.ntmps31
  go_wp2_with fail
  have hp1 : Bk (((w.setCell ⟨p, 0, none⟩ (.slice A l c)).setCell ⟨p, 1, none⟩ (.int .i64 s)).alloc (.cells #[.slice A l c, .int .i64 s] 55)) p 58 #[.slice A l c, .int .i64 s, fb, .int .i64 fs, sv] := ((hp.set_ 0 _).set_ 1 _).alloc _
  have hne : some p ≠ sv.ownBlock := own_ne ho hp (by decide)
  have hnb : some w.heap.size ≠ sv.ownBlock := fun e => by have := (own_cells ho e.symm).2.1; omega
  have ho1 : (((w.setCell ⟨p, 0, none⟩ (.slice A l c)).setCell ⟨p, 1, none⟩ (.int .i64 s)).alloc (.cells #[.slice A l c, .int .i64 s] 55)).ownsRow 0 55 2 sv n xs := ((own_far (own_far ho (p := ⟨p, 0, none⟩) hne _) (p := ⟨p, 1, none⟩) hne _).alloc _)
  have hb1 : Bk (((w.setCell ⟨p, 0, none⟩ (.slice A l c)).setCell ⟨p, 1, none⟩ (.int .i64 s)).alloc (.cells #[.slice A l c, .int .i64 s] 55)) w.heap.size 55 #[.slice A l c, .int .i64 s] := by
    have := Bk.new ((w.setCell ⟨p, 0, none⟩ (.slice A l c)).setCell ⟨p, 1, none⟩ (.int .i64 s)) 55 #[.slice A l c, .int .i64 s]
    rwa [show ((w.setCell ⟨p, 0, none⟩ (.slice A l c)).setCell ⟨p, 1, none⟩ (.int .i64 s)).heap.size = w.heap.size from by simp [World.setCell]] at this
  have hm1 : Moves (TapeX p sv) w (((w.setCell ⟨p, 0, none⟩ (.slice A l c)).setCell ⟨p, 1, none⟩ (.int .i64 s)).alloc (.cells #[.slice A l c, .int .i64 s] 55)) := by
    have a := Moves.setCell (X := TapeX p sv) w ⟨p, 0, none⟩ (.slice A l c) (fun o _ => .inl rfl)
    have b := Moves.setCell (X := TapeX p sv) (w.setCell ⟨p, 0, none⟩ (.slice A l c)) ⟨p, 1, none⟩ (.int .i64 s) (fun o _ => .inl rfl)
    exact (a.trans_ b (fun k o o' h => h)).trans_ (Moves.alloc _ _ _) (fun k o o' h => h)
  obtain ⟨w1, hw1⟩ : ∃ w1, (((w.setCell ⟨p, 0, none⟩ (.slice A l c)).setCell ⟨p, 1, none⟩ (.int .i64 s)).alloc (.cells #[.slice A l c, .int .i64 s] 55)) = w1 := ⟨_, rfl⟩
  rw [hw1] at hp1 ho1 hb1 hm1 ⊢
  have hz1' := hm1.size
  have c4 := hp1.cell 4
  have f4 := hp1.frozen 4
  have d0 := hb1.cell 0
  have d1 := hb1.cell 1
  have hpl1 := hp1.lt
  have hbl1 := hb1.lt
  clear hw1 c0 c1 f0 f1
  go_region_law (first
    | (refine step_append_lies _ (by rfl) _ _ _ (by rfl) 0 55 i0 _ 2 32 Tryd.underlying56 hi hz0 hz1 hz2 rfl (by omega) sv n xs (by rfl) ((ho1.alloc _).drew)
        ⟨w1.heap.size, 0, none⟩ 1 1 [.slice A l c, .int .i64 s] (by rfl) (by rfl) (World.news_of_block (cs := #[.slice A l c, .int .i64 s]) (t := 55) (fr := (0, 0)) (heap_alloc_new w1 _)) (by simp [Value.oneCell'])
        (by omega) (by unfold maxLen; omega) (by omega) (by simp) (w1.heap.size + 1) (by simp) ?_; intro gg cap w2 hown2 hgrow hat hlt; have hp2 := (hp1.alloc (.cells #[.slice A l c, .int .i64 s] 55)).drew.grown hgrow hne; have f2 := hp2.frozen 4; have c2 := hp2.cell 4))
  all_goals
    go_wp2_with fail
    go_ret
    refine ⟨.slice (some ⟨gg, 0, none⟩) (n + 1) cap, rfl, hp2.set_ 4 _, own_far hown2 (p := ⟨p, 4, none⟩) (own_ne hown2 hp2 (by decide)) _, ?_, ?_⟩
    · have m1 := Moves.alloc (TapeX p sv) w1 (.cells #[.slice A l c, .int .i64 s] 55)
      have m2 := Moves.drew (TapeX p sv) (w1.alloc (.cells #[.slice A l c, .int .i64 s] 55))
      have m3 := Moves.grown (X := TapeX p sv) hgrow (fun k o e => .inr e)
      have m4 := Moves.setCell (X := TapeX p sv) w2 ⟨p, 4, none⟩ (.slice (some ⟨gg, 0, none⟩) (n + 1) cap) (fun o _ => .inl rfl)
      exact (((hm1.trans_ m1 (fun _ _ _ h => h)).trans_ m2 (fun _ _ _ h => h)).trans_ m3 (fun _ _ _ h => h)).trans_ m4 (fun _ _ _ h => h)
    · intro k hk
      simp only [Value.ownBlock, Option.some.injEq] at hk
      subst hk
      rcases hat with h | h
      · exact .inl h
      · exact .inr (by omega)

theorem info_u8 : (Tryd.prog.info? 5).map (fun i => (i.zero, i.size, i.bytes)) = some (some (.int .u8 0), 1, 1) := by kernel_rfl

/-- What a step of a tape reads as. -/
def StepsRd (w : World) (cs : List Value) (st : List (List UInt8 × Nat)) : Prop :=
  cs.length = st.length * 2 ∧ ∀ i s, st[i]? = some s → ∃ v, cs[i * 2]? = some v ∧ cs[i * 2 + 1]? = some (.int .i64 (s.2 : Int)) ∧ Rd 5 w v (bts s.1)
def okStep (s : List UInt8 × Nat) : Prop := s.1.length ≤ 1048576 ∧ s.2 ≤ s.1.length
/-- A tape at block p: its first step, what it is now, its steps behind the first one; sv: the slice of steps. -/
structure TapeAt (w : World) (p : Nat) (sv : Value) (f n : List UInt8 × Nat) (st : List (List UInt8 × Nat)) : Prop where
  bk : ∃ nb fb, Bk w p 58 #[nb, .int .i64 (n.2 : Int), fb, .int .i64 (f.2 : Int), sv] ∧ Rd 5 w nb (bts n.1) ∧ Rd 5 w fb (bts f.1)
  own : ∃ cs, w.ownsRow 0 55 2 sv st.length cs ∧ StepsRd w cs st
  okf : okStep f
  okn : okStep n
  oks : ∀ s ∈ st, okStep s

theorem TapeAt.moves {X : Nat → Obj → Prop} {w w' : World} {p : Nat} {sv : Value} {f n : List UInt8 × Nat} {st : List (List UInt8 × Nat)} (h : TapeAt w p sv f n st) (hm : Moves X w w')
    (h1 : ∀ o, ¬ X p o) (h2 : ∀ k o, sv.ownBlock = some k → ¬ X k o) (h3 : ∀ k cur, k < w.heap.size → w.heap[k]? = some (.cells cur 5 (0, 0)) → ¬ X k (.cells cur 5 (0, 0))) : TapeAt w' p sv f n st := by
  obtain ⟨⟨nb, fb, b1, b2, b3⟩, ⟨cs, o1, o2, o3⟩, k1, k2, k3⟩ := h
  refine ⟨⟨nb, fb, hm.bk b1 (h1 _), b2.moves hm h3, b3.moves hm h3⟩, ⟨cs, ?_, o2, fun i s hs => ?_⟩, k1, k2, k3⟩
  · refine ⟨o1.1, ?_⟩
    rcases o1.2 with hn | ⟨g, cap, cur, hv, hb, hg, rest⟩
    · exact .inl hn
    · exact .inr ⟨g, cap, cur, hv, hb, hm.block g _ hg (h2 g _ (by rw [hv]; rfl)), rest⟩
  · obtain ⟨v, a, b, c⟩ := o3 i s hs
    exact ⟨v, a, b, c.moves hm h3⟩
theorem TapeAt.below {B : Nat} {w w' : World} {p : Nat} {sv : Value} {f n : List UInt8 × Nat} {st : List (List UInt8 × Nat)} (h : TapeAt w p sv f n st) (hb : Below B w w') (hB : w.heap.size ≤ B) : TapeAt w' p sv f n st :=
  h.moves (Moves.below (fun _ _ => False) hb hB) (fun _ h => h) (fun _ _ _ h => h) (fun _ _ _ _ h => h)

theorem tnew_any (w : World) : Calls Tryd.prog 13 #[] w fun e w' => e = .returned (.pointer (some ⟨w.heap.size, 0, none⟩)) ∧ Below w.heap.size w w' ∧ w.heap.size < w'.heap.size ∧ TapeAt w' w.heap.size (.slice none 0 0) ([], 0) ([], 0) [] := by
  go_enter Tryd.func13, Tryd.ntmps13
  go_wp2
  go_ret
  refine ⟨rfl, (by (first | assumption | (repeat (first | exact Below.refl _ _ | assumption | apply Below.drew | apply below_drewN | (refine Below.setCell ?_ (by (try simp) <;> omega) _) | (refine Below.alloc ?_ (by (try simp) <;> omega) _))))), by simp, ⟨_, _, Bk.new w _ _, Rd.nil _ _, Rd.nil _ _⟩, ⟨[], World.ownsRow_nil _ _ _ _, rfl, fun i s h => by simp at h⟩, ⟨by simp, by simp⟩, ⟨by simp, by simp⟩, by simp⟩

theorem calls_any (p : Nat) (sv : Value) (f n : List UInt8 × Nat) (st : List (List UInt8 × Nat)) (w : World) (h : TapeAt w p sv f n st) :
    Calls Tryd.prog 22 #[.pointer (some ⟨p, 0, none⟩)] w fun e w' => e = .returned (.int .i64 (st.length : Int)) ∧ Below w.heap.size w w' := by
  obtain ⟨nb, fb, b1, _, _⟩ := h.bk
  obtain ⟨cs, o1, _⟩ := h.own
  obtain ⟨A, c, rfl, _, _, _⟩ := own_sl o1
  have c1 := b1.cell 4
  clear h o1
  go_enter Tryd.func22, Tryd.ntmps22
  go_wp2
  go_ret
  exact ⟨rfl, (by (first | assumption | (repeat (first | exact Below.refl _ _ | assumption | apply Below.drew | apply below_drewN | (refine Below.setCell ?_ (by (try simp) <;> omega) _) | (refine Below.alloc ?_ (by (try simp) <;> omega) _)))))⟩

set_option maxHeartbeats 1000000 in
/-- bytes.Clone. -/
theorem clone_any (A : Option Addr) (xs : List UInt8) (c : Nat) (w : World) (hl : xs.length ≤ 1073741824) (hA : Sl w w.heap.size 1 A xs.length (bts xs)) :
    Calls Tryd.prog 29 #[.slice A xs.length c] w fun e w' => ∃ v, e = .returned v ∧ Rd 5 w' v (bts xs) ∧ Below w.heap.size w w' ∧ Fr w.heap.size v := by
  obtain ⟨i0, hi, hz0, hz1, hz2⟩ := info_parts info_u8
  cases A with
  | none =>
    have h0 : xs = [] := by
      rcases Nat.eq_zero_or_pos xs.length with h | h
      · exact List.eq_nil_of_length_eq_zero h
      · obtain ⟨b, off, e, _⟩ := hA.2 h; cases e
    subst h0
    clear hA
    have hnil := fun W => Lib.run_eql_slice_nil (P := Tryd.prog) W 22 5 none 0 c 0 0 Tryd.underlying22
    go_enter Tryd.func29, Tryd.ntmps29
    go_wp2
    go_ret
    exact ⟨_, rfl, Rd.nil _ _, (by (first | assumption | (repeat (first | exact Below.refl _ _ | assumption | apply Below.drew | apply below_drewN | (refine Below.setCell ?_ (by (try simp) <;> omega) _) | (refine Below.alloc ?_ (by (try simp) <;> omega) _))))), Fr.nil _ _ _⟩
  | some a =>
    obtain ⟨L, hL⟩ : ∃ L, xs.length = L := ⟨_, rfl⟩
    rw [hL] at hA hl ⊢
    have hb0 : Below w.heap.size w (w.alloc (.cells #[] 5)) := (by (first | assumption | (repeat (first | exact Below.refl _ _ | assumption | apply Below.drew | apply below_drewN | (refine Below.setCell ?_ (by (try simp) <;> omega) _) | (refine Below.alloc ?_ (by (try simp) <;> omega) _)))))
    have HA := Lib.hid ((hA.below hb0).more hb0.size)
    have HL := Lib.hid hL
    have hnil := fun W => Lib.run_eql_slice_nil (P := Tryd.prog) W 22 5 (some a) L c 0 0 Tryd.underlying22
    clear hA hL
    go_enter Tryd.func29, Tryd.ntmps29
    go_wp2_with (at_builtin; refine wpList_append_clip (w.alloc (.cells #[] 5)) rfl _ _ 22 rfl 5 i0 _ 1 Tryd.underlying22 hi hz0 hz1 hz2 rfl (some ⟨w.heap.size, 0, none⟩) 0 0 [] rfl ⟨rfl, fun h => absurd h (by omega)⟩ rfl (by simp [maxLen]) (some a) L c (bts xs) rfl HA.out bts_one (by unfold maxLen; omega) (by omega) ?_; intro A2 c2 w2 hg q1 q2 q3 q4)
    go_ret
    refine ⟨_, rfl, ?_, hb0.trans ((Below.refl _ _).grown hg (by simp) (fun k h => by cases h)), ?_⟩
    rotate_left
    · rcases Nat.eq_zero_or_pos L with h0 | h0
      · subst h0; exact Fr.zero _ _ _
      · have := (Fr.of_own (q4 h0)).less hb0.size
        rw [Nat.zero_add] at this
        exact this
    have hr0 : Rd 5 (w.alloc (.cells #[] 5)) (.slice (some ⟨w.heap.size, 0, none⟩) 0 0) [] := ⟨_, 0, rfl, Nat.le_refl _, by simp [maxLen], fun h => absurd h (by simp)⟩
    have := clip_rd rfl hr0 hg (by rw [bts_len]; exact HL.out) q3 q4 rfl
    simpa using this

set_option maxHeartbeats 1000000 in
theorem read_any (p : Nat) (sv : Value) (f n : List UInt8 × Nat) (st : List (List UInt8 × Nat)) (w : World) (h : TapeAt w p sv f n st) :
    Calls Tryd.prog 16 #[.pointer (some ⟨p, 0, none⟩)] w fun e w' => ∃ v, e = .returned v ∧ Rd 5 w' v (bts n.1) ∧ Below w.heap.size w w' ∧ Fr w.heap.size v := by
  obtain ⟨nb, fb, b1, b2, _⟩ := h.bk
  obtain ⟨A, c, rfl, hc1, hc2, hs⟩ := b2.sl
  rw [bts_len] at *
  have HC := Lib.hid (clone_any A n.1 c w (by have := h.okn.1; omega) hs)
  have c1 := b1.cell 0
  clear h b2 hs
  go_enter Tryd.func16, Tryd.ntmps16
  go_wp2_with fail
  with_reducible refine HC.out.mono ?_
  rintro e w1 ⟨v, rfl, hr, hb1, hf1⟩
  go_wp2_with fail
  go_ret
  exact ⟨_, rfl, hr, hb1, hf1⟩

/-- What is left behind 'done'. -/
theorem TapeAt.done {w w' : World} {p : Nat} {sv sv' fb b : Value} {f n s : List UInt8 × Nat} {st : List (List UInt8 × Nat)} {cs : List Value} (h : TapeAt w p sv f n st) (hfb : Rd 5 w fb (bts f.1)) (hcs : w.ownsRow 0 55 2 sv st.length cs) (hst : StepsRd w cs st)
    (hb : Rd 5 w b (bts s.1)) (hs : okStep s) (h1 : Bk w' p 58 #[b, .int .i64 (s.2 : Int), fb, .int .i64 (f.2 : Int), sv']) (h2 : w'.ownsRow 0 55 2 sv' (st.length + 1) (cs ++ [b, .int .i64 (s.2 : Int)])) (hm : Moves (TapeX p sv) w w') : TapeAt w' p sv' f s (st ++ [s]) := by
  obtain ⟨nb, fb', b1, b2, b3⟩ := h.bk
  have hx : ∀ k cur, k < w.heap.size → w.heap[k]? = some (.cells cur 5 (0, 0)) → ¬ TapeX p sv k (.cells cur 5 (0, 0)) := by
    rintro k cur _ hk (rfl | hk')
    · exact Bk.ne_ b1 hk (by decide) rfl
    · obtain ⟨_, _, cur', hc⟩ := own_cells hcs hk'.symm
      exact Bk.ne_ (g := k) hc hk (by decide) rfl
  refine ⟨⟨b, fb, h1, hb.moves hm hx, hfb.moves hm hx⟩, ⟨_, by simpa using h2, by simp [hst.1]; omega, fun i t ht => ?_⟩, h.okf, hs, fun t ht => ?_⟩
  · by_cases hi : i < st.length
    · rw [List.getElem?_append_left hi] at ht
      obtain ⟨v, a, c, d⟩ := hst.2 i t ht
      have hl := hst.1
      exact ⟨v, by rw [List.getElem?_append_left (by omega)]; exact a, by rw [List.getElem?_append_left (by omega)]; exact c, d.moves hm hx⟩
    · have hi' : i = st.length := by
        have := (List.getElem?_eq_some_iff.1 ht).1
        simp at this
        omega
      subst hi'
      rw [List.getElem?_append_right (Nat.le_refl _)] at ht
      simp at ht
      subst ht
      have hl := hst.1
      exact ⟨b, by rw [List.getElem?_append_right (by omega)]; simp [hl], by rw [List.getElem?_append_right (by omega)]; simp [hl], hb.moves hm hx⟩
  · rcases List.mem_append.1 ht with ht | ht
    · exact h.oks t ht
    · simp at ht; subst ht; exact hs

/-- What a call that was done leaves. -/
def Did (w : World) (p : Nat) (sv : Value) (f s : List UInt8 × Nat) (st : List (List UInt8 × Nat)) (r : Int) (e : Ending) (w' : World) : Prop :=
  ∃ sv', e = .returned (.int .i64 r) ∧ TapeAt w' p sv' f s st ∧ Moves (TapeX p sv) w w' ∧ ∀ k, sv'.ownBlock = some k → sv.ownBlock = some k ∨ w.heap.size ≤ k

set_option maxHeartbeats 1000000 in
theorem sync_any (p : Nat) (sv : Value) (f n : List UInt8 × Nat) (st : List (List UInt8 × Nat)) (w : World) (h : TapeAt w p sv f n st) (hn : st.length ≤ 1000000) :
    Calls Tryd.prog 27 #[.pointer (some ⟨p, 0, none⟩)] w (Did w p sv f (n.1, n.1.length) (st ++ [(n.1, n.1.length)]) 0) := by
  obtain ⟨nb, fb, b1, b2, b3⟩ := h.bk
  obtain ⟨cs, o1, o2⟩ := h.own
  obtain ⟨A, c, hA, hc1, hc2, hs⟩ := b2.sl
  rw [bts_len] at hA
  subst hA
  have hlen := h.okn.1
  have HD := Lib.hid (done_any p st.length (.slice A n.1.length c) fb sv (.slice A n.1.length c) n.2 f.2 n.1.length cs w.drew b1.drew o1 hn A _ c rfl)
  have c0 := b1.cell 0
  have HF := Lib.hid (fun (sv' : Value) (w' : World) => TapeAt.done (w := w.drew) (w' := w') (sv' := sv') (s := (n.1, n.1.length)) (h.moves (Moves.drew (fun _ _ => False) w) (fun _ h => h) (fun _ _ _ h => h) (fun _ _ _ _ h => h)) b3 o1 o2 b2 ⟨hlen, Nat.le_refl _⟩)
  clear h b2 b3 hs o1 o2
  go_enter Tryd.func27, Tryd.ntmps27
  go_wp2_with fail
  go_still_tail 13, (by kernel_rfl)
  change wpList _ _ _ _ _ w.drew
  go_wp2_with fail
  with_reducible refine HD.out.mono ?_
  rintro e w1 ⟨sv', rfl, q1, q2, q3, q4⟩
  go_wp2_with fail
  go_ret
  exact ⟨sv', rfl, HF.out sv' w1 q1 q2 q3, (Moves.drew (TapeX p sv) w).trans_ q3 (fun _ _ _ h => h), q4⟩

set_option maxHeartbeats 1000000 in
theorem trim_bad (p : Nat) (sv : Value) (f n : List UInt8 × Nat) (st : List (List UInt8 × Nat)) (k : Int) (w : World) (h : TapeAt w p sv f n st) (hk : k < 0 ∨ (n.1.length : Int) < k) :
    Calls Tryd.prog 20 #[.pointer (some ⟨p, 0, none⟩), .int .i64 k] w fun e w' => e = .returned (.int .i64 1) ∧ w = w' := by
  obtain ⟨nb, fb, b1, b2, b3⟩ := h.bk
  obtain ⟨A, c, hA, hc1, hc2, hs⟩ := b2.sl
  rw [bts_len] at hA
  subst hA
  have c0 := b1.cell 0
  clear h b2 b3 hs
  rcases hk with hk | hk
  · go_enter Tryd.func20, Tryd.ntmps20
    go_wp2_with fail
    go_ret
    exact ⟨rfl, rfl⟩
  · have e1 : decide (k < 0) = false := by simp; omega
    go_enter Tryd.func20, Tryd.ntmps20
    go_wp2_with fail
    go_ret
    exact ⟨rfl, rfl⟩

set_option maxHeartbeats 1000000 in
theorem trim_ok (p : Nat) (sv : Value) (f n : List UInt8 × Nat) (st : List (List UInt8 × Nat)) (k : Nat) (w : World) (h : TapeAt w p sv f n st) (hk : k ≤ n.1.length) (hn : st.length ≤ 1000000) :
    Calls Tryd.prog 20 #[.pointer (some ⟨p, 0, none⟩), .int .i64 k] w (Did w p sv f (n.1.take k, k) (st ++ [(n.1.take k, k)]) 0) := by
  obtain ⟨nb, fb, b1, b2, b3⟩ := h.bk
  obtain ⟨cs, o1, o2⟩ := h.own
  obtain ⟨A, c, hA, hc1, hc2, hs⟩ := b2.sl
  rw [bts_len] at hA hc1
  subst hA
  have hlen := h.okn.1
  obtain ⟨A', c', hA', hbt⟩ := b2.take (k := k) (by rw [bts_len]; exact hk)
  injection hA' with hA1 hA0 hA2
  subst hA1 hA2
  clear hA0
  rw [bts_take] at hbt
  have HD := Lib.hid (done_any p st.length (.slice A n.1.length c) fb sv (.slice A k c) n.2 f.2 k cs w b1 o1 hn A k c rfl)
  have c0 := b1.cell 0
  have HF := Lib.hid (fun (sv' : Value) (w' : World) => TapeAt.done (w := w) (w' := w') (sv' := sv') (s := (n.1.take k, k)) h b3 o1 o2 hbt ⟨by simp; omega, by simp; omega⟩)
  have hkc : (k : Int) ≤ (c : Int) := by omega
  have e1 : decide ((k : Int) < 0) = false := by simp
  have e2 : decide ((n.1.length : Int) < (k : Int)) = false := by simp; omega
  unfold maxLen at hc2
  clear h b2 b3 hs o1 o2 hbt
  go_enter Tryd.func20, Tryd.ntmps20
  go_wp2_with fail
  with_reducible refine HD.out.mono ?_
  rintro e w1 ⟨sv', rfl, q1, q2, q3, q4⟩
  go_wp2_with fail
  go_ret
  exact ⟨sv', rfl, HF.out sv' w1 q1 q2 q3, q3, q4⟩

set_option maxHeartbeats 1000000 in
theorem append_full (p : Nat) (sv : Value) (f n : List UInt8 × Nat) (st : List (List UInt8 × Nat)) (A' : Option Addr) (m c' : Nat) (w : World) (h : TapeAt w p sv f n st) (hm : 1048576 < n.1.length + m) (hml : m ≤ maxLen) :
    Calls Tryd.prog 23 #[.pointer (some ⟨p, 0, none⟩), .slice A' m c'] w fun e w' => e = .returned (.int .i64 101) ∧ w = w' := by
  obtain ⟨nb, fb, b1, b2, b3⟩ := h.bk
  obtain ⟨A, c, hA, hc1, hc2, hs⟩ := b2.sl
  rw [bts_len] at hA
  subst hA
  have c0 := b1.cell 0
  have hlen := h.okn.1
  unfold maxLen at hml
  clear h b2 b3 hs
  go_enter Tryd.func23, Tryd.ntmps23
  go_wp2_with fail
  go_ret
  exact ⟨rfl, rfl⟩

set_option maxRecDepth 100000 in
set_option maxHeartbeats 2000000 in
theorem append_ok (p : Nat) (sv : Value) (f n : List UInt8 × Nat) (st : List (List UInt8 × Nat)) (A' : Option Addr) (ys : List UInt8) (c' : Nat) (w : World) (h : TapeAt w p sv f n st) (hm : n.1.length + ys.length ≤ 1048576) (hs' : Sl w w.heap.size 1 A' ys.length (bts ys)) (hn : st.length ≤ 1000000) :
    Calls Tryd.prog 23 #[.pointer (some ⟨p, 0, none⟩), .slice A' ys.length c'] w (Did w p sv f (n.1 ++ ys, n.2) (st ++ [(n.1 ++ ys, n.2)]) 0) := by
  obtain ⟨i0, hi, hz0, hz1, hz2⟩ := info_parts info_u8
  obtain ⟨nb, fb, b1, b2, b3⟩ := h.bk
  obtain ⟨cs, o1, o2⟩ := h.own
  obtain ⟨A, c, hA, hc1, hc2, hs⟩ := b2.sl
  rw [bts_len] at hA hc1 hs
  subst hA
  have hlen := h.okn.1
  have hsafe := h.okn.2
  obtain ⟨L, hL⟩ : ∃ L, n.1.length = L := ⟨_, rfl⟩
  obtain ⟨M, hM⟩ : ∃ M, ys.length = M := ⟨_, rfl⟩
  rw [hL] at hc1 hs hlen b1 b2 hm
  rw [hM] at hs' hm ⊢
  unfold maxLen at hc2
  have hD : ∀ (w1 : World) (A2 : Option Addr) (c2 : Nat), Below w.heap.size w w1 → Rd 5 w1 (.slice A2 (L + M) c2) (bts (n.1 ++ ys)) →
      Calls Tryd.prog 31 #[.pointer (some ⟨p, 0, none⟩), .agg #[.slice A2 (L + M) c2, .int .i64 n.2]] w1 (Did w p sv f (n.1 ++ ys, n.2) (st ++ [(n.1 ++ ys, n.2)]) 0) := by
    intro w1 A2 c2 hb hr
    have h1 := h.below hb (Nat.le_refl _)
    obtain ⟨nb', fb', x1, x2, x3⟩ := h1.bk
    obtain ⟨cs', y1, y2⟩ := h1.own
    refine (done_any p st.length nb' fb' sv (.slice A2 (L + M) c2) n.2 f.2 n.2 cs' w1 x1 y1 hn A2 _ c2 rfl).mono ?_
    rintro e w' ⟨sv', rfl, q1, q2, q3, q4⟩
    exact ⟨sv', rfl, TapeAt.done (s := (n.1 ++ ys, n.2)) h1 x3 y1 y2 hr ⟨by simp; omega, by simp; omega⟩ q1 q2 q3, (Moves.below (TapeX p sv) hb (Nat.le_refl _)).trans_ q3 (fun _ _ _ h => h), fun k hk => by
      rcases q4 k hk with h | h
      · exact .inl h
      · exact .inr (Nat.le_trans hb.size h)⟩
  have HD := Lib.hid hD
  have HR := Lib.hid (fun (A2 : Option Addr) (c2 : Nat) (w1 : World) => clip_rd (w := w.drew) (w' := w1) (v' := .slice A2 (L + M) c2) (n := L) (m := M) (news := bts ys) rfl b2)
  have c0 := b1.cell 0
  have c1 := b1.cell 1
  have k1 : (L : Int) ≤ (c : Int) := by omega
  have k2 : L ≤ c := hc1
  have HS := Lib.hid hs
  have HS' := Lib.hid hs'
  have HL := Lib.hid hL
  have HM := Lib.hid hM
  have hsz : n.2 ≤ L := by omega
  have hpl := b1.lt
  clear h b2 b3 o1 o2 hD hs hs' hL hM
  go_enter Tryd.func23, Tryd.ntmps23
  go_wp2_with fail
  go_region_law (first
    | (refine step_append_clip w.drew (by rfl) _ _ 22 (by rfl) 5 i0 _ 1 Tryd.underlying22 hi hz0 hz1 hz2 rfl A L L (bts n.1) (by rfl) HS.out rfl (by unfold maxLen; omega) A' M c' (bts ys) (by rfl) HS'.out bts_one (by unfold maxLen; omega) (by omega) ?_; intro A2 c2 w2 hg q1 q2 q3 q4; have hbw : Below w.heap.size w w2 := ((Below.refl _ w).drew).grown hg (Nat.le_refl _) (fun k e => by cases e); have d1 : w2.cell? ⟨p, 1, none⟩ = some (.int .i64 n.2) := (hbw.cell (p := ⟨p, 1, none⟩) hpl).trans c1)
    | (go_simp; go_at_call 31; refine (HD.out w2 A2 c2 hbw (by have := HR.out A2 c2 w2 hg (by rw [bts_len]; exact HM.out) q3 q4 (by rw [bts_len]; exact HL.out); rw [bts_app]; exact this)).mono ?_; rintro e w3 ⟨sv', rfl, r1, r2, r3⟩))
  all_goals
    go_wp2_with fail
    go_ret
    exact ⟨sv', rfl, r1, r2, r3⟩
end Go.Proofs.YtpmmojjffjpmbaaDoor
