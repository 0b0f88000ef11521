/- What this text proves: the contract of a log's Records. The condition is how a log lies in memory. -/
import Derived.Test.YtpmmojjffjpmbaaDoorWalVals
namespace Go.Proofs.YtpmmojjffjpmbaaDoor
open Go.RowKit Go.Shelf
set_option linter.unusedVariables false
set_option linter.unusedSimpArgs false
attribute [local go_sem] Oper.semAt_some wide_fn wide_depth

theorem stepIn_append_own {F : Fence} {n : Nat} {P : Program} (w : World) {ops : Array Oper} {o : Oper} {a : Act} {K : Act → World → Prop} {Q : Exit → Act → World → Prop} {E : Prop}
    (hg : o.guard = none) (s x : Operand) (t : TypeId) (hop : o.op = Op.call { callee := Callee.builtin Builtin.append, args := #[s, x], argTypes := #[t, t] })
    (base : Nat) (e : TypeId) (i : TypeInfo) (z : Value) (size bytes : Nat) (h1 : P.underlying t = some (.slice e)) (h2 : P.info? e = some i) (h3 : i.zero = some z) (h4 : i.size = size) (h5 : i.bytes = bytes) (h6 : z.cells.size = size) (h7 : 0 < size)
    (v : Value) (k : Nat) (xs : List Value) (hs : a.eval s = v) (hown : w.ownsRow base e size v k xs) (ad : Addr) (m c : Nat) (news : List Value) (hx : a.eval x = .slice (some ad) m c) (hn : news.length = m * size)
    (hc : ∀ j u, news[j]? = some u → w.cell? (ad.add j) = some u) (h1c : ∀ u ∈ news, u.oneCell' = true) (b1 : k + m ≤ maxLen) (b2 : (k + m) * bytes ≤ 140737488355328) (b3 : base ≤ w.heap.size)
    (hK : ∀ v' w', w'.ownsRow base e size v' (k + m) (xs ++ news) → w.grownBy w' v.ownBlock → (v' = .slice none 0 0 ↔ v = .slice none 0 0 ∧ m = 0) → K (a.put o.dst v') w') :
    if Region.wanted o (yielded ops a.tmps) = true then Oper.wpIn F n P o a w K Q else E := by
  have hw : Region.wanted o (yielded ops a.tmps) = true := by simp [Region.wanted, hg]
  rw [if_pos hw]
  obtain ⟨v', w', hrun, r1, r2, r3⟩ := run_append_own (P := P) w base t o.type e i z size bytes h1 h2 h3 h4 h5 h6 h7 v k xs hown ad m c news hn hc h1c b1 b2 b3
  unfold Oper.wpIn
  refine ⟨?_, ?_⟩
  · simp [Oper.about, hop, resolve, Target.leads, Sem.run_pure]
  · rw [Oper.semAt_plain F _ _ (by rw [hop]; intro c hc'; cases hc')]
    simp [execOp, hop, resolve, invoke, builtin, hs, hx, hrun, Result.andThen]
    exact hK v' w' r1 r2 r3

/-- What the loop in Records holds: the box of the copies so far. -/
structure RI (w : World) (n₀ : Nat) (pre : List Part) (W : World) : Prop where
  out : ∃ (v : Value) (ls : List Part), Bk W n₀ 24 #[v] ∧ W.ownsRow (n₀ + 2) 22 1 v ls.length (ls.map slv) ∧ ls.map dat = pre.map dat ∧ ∀ p ∈ ls, Rd 5 W (slv p) (bts p.2.2)
  bel : Below n₀ w W
theorem RI.moves {w W W' : World} {n₀ : Nat} {pre : List Part} (h : RI w n₀ pre W) (hn : n₀ = w.heap.size) (hm : Moves (fun k o => False ∨ (n₀ + 2 ≤ k ∧ o.isCells = false)) W W') : RI w n₀ pre W' := by
  obtain ⟨⟨v, ls, h1, h2, h3, h4⟩, h5⟩ := h
  refine ⟨⟨v, ls, hm.bk h1 ?_, hm.own h2 ?_, h3, fun p hp => (h4 p hp).moves hm ?_⟩, h5.trans (hm.to_below (by rw [hn]; exact Nat.le_trans (by omega) h5.size) ?_)⟩
  · rintro (h | ⟨h, _⟩) <;> omega
  · rintro g cs hg (h | ⟨_, h⟩)
    · exact h
    · cases h
  · rintro k cur _ _ (h | ⟨_, h⟩)
    · exact h
    · cases h
  · rintro k o (h | ⟨h, _⟩)
    · exact h.elim
    · omega

theorem RI.step {w W w3 w4 : World} {n₀ g cap xl3 c3 : Nat} {pre ls : List Part} {x : Part} {v : Value} {A3 : Option Addr} (hn : n₀ = w.heap.size) (hs : RI w n₀ pre W) (hv : Bk W n₀ 24 #[v]) (hrow : W.ownsRow (n₀ + 2) 22 1 v ls.length (ls.map slv))
    (hls : ls.map dat = pre.map dat ∧ ∀ p ∈ ls, Rd 5 W (slv p) (bts p.2.2)) (hz : n₀ + 2 ≤ W.heap.size) (hb3 : Below W.heap.size W w3) (hr3 : Rd 5 w3 (.slice A3 xl3 c3) (bts x.2.2)) (hxl : x.2.2.length = xl3)
    (hg : (w3.alloc (.cells #[.slice A3 xl3 c3] 22)).grownBy w4 v.ownBlock) (ho : w4.ownsRow (n₀ + 2) 22 1 (.slice (some ⟨g, 0, none⟩) (ls.length + 1) cap) (ls.length + 1) (ls.map slv ++ [.slice A3 xl3 c3])) :
    KeepsFrom (n₀ + 2) W (w4.setCell ⟨n₀, 0, none⟩ (.slice (some ⟨g, 0, none⟩) (ls.length + 1) cap)) ∧
    KeepX n₀ (n₀ + 1) W (w4.setCell ⟨n₀, 0, none⟩ (.slice (some ⟨g, 0, none⟩) (ls.length + 1) cap)) ∧
      (RI w n₀ (pre ++ [x]) (w4.setCell ⟨n₀, 0, none⟩ (.slice (some ⟨g, 0, none⟩) (ls.length + 1) cap)) ∧ n₀ + 2 ≤ (w4.setCell ⟨n₀, 0, none⟩ (.slice (some ⟨g, 0, none⟩) (ls.length + 1) cap)).heap.size) := by
  have hown : ∀ k, v.ownBlock = some k → n₀ + 2 ≤ k := fun k hk => (own_cells hrow hk).1
  have hv3 := hv.below hb3 hv.lt
  have hrow3 := own_bl hrow hb3
  have hm1 : Moves (fun k _ => some k = v.ownBlock) w3 w4 := (Moves.alloc _ w3 _).trans_ (Moves.grown hg (fun _ _ h => h)) (fun _ _ _ h => h)
  have hv4 := hm1.bk hv3 (fun e => by have := hown _ e.symm; omega)
  have hm2 : Moves (fun k _ => k = n₀ ∨ some k = v.ownBlock) w3 (w4.setCell ⟨n₀, 0, none⟩ (.slice (some ⟨g, 0, none⟩) (ls.length + 1) cap)) :=
    (hm1.more fun _ _ h => .inr h).trans_ (Moves.setCell _ _ _ (fun _ _ => .inl rfl)) (fun _ _ _ h => h)
  have hm : Moves (fun k _ => k = n₀ ∨ some k = v.ownBlock) W (w4.setCell ⟨n₀, 0, none⟩ (.slice (some ⟨g, 0, none⟩) (ls.length + 1) cap)) := (Moves.below _ hb3 (Nat.le_refl _)).trans_ hm2 (fun _ _ _ h => h)
  have hu8 : ∀ W0, Bk W0 n₀ 24 #[v] → W0.ownsRow (n₀ + 2) 22 1 v ls.length (ls.map slv) → ∀ k cur, W0.heap[k]? = some (.cells cur 5 (0, 0)) → ¬ (k = n₀ ∨ some k = v.ownBlock) := by
    rintro W0 hv0 hr0 k cur hk (rfl | h)
    · exact Bk.ne_ hv0 hk (by decide) rfl
    · obtain ⟨_, _, c, hc⟩ := own_cells hr0 h.symm
      exact Bk.ne_ (g := k) hc hk (by decide) rfl
  refine ⟨⟨hm.size, fun k o hB hk ho' => hm.block k o hk ?_⟩, KeepX.moves hm ?_, ⟨⟨.slice (some ⟨g, 0, none⟩) (ls.length + 1) cap, ls ++ [(A3, c3, x.2.2)], ?_, ?_, ?_, ?_⟩, ?_⟩, Nat.le_trans hz hm.size⟩
  · rintro (h | h)
    · omega
    · obtain ⟨_, _, c, hc⟩ := own_cells hrow h.symm
      rw [hc] at hk
      cases hk
      cases ho'
  · rintro k o (h | h)
    · omega
    · have := hown _ h.symm
      omega
  · simpa using hv4.set_ 0 (.slice (some ⟨g, 0, none⟩) (ls.length + 1) cap)
  · rw [List.length_append, List.map_append]
    have := own_far ho (p := ⟨n₀, 0, none⟩) (own_ne ho hv4 (by decide)) (.slice (some ⟨g, 0, none⟩) (ls.length + 1) cap)
    simpa [slv, hxl] using this
  · rw [List.map_append, List.map_append, hls.1]
    rfl
  · intro p hp
    rcases List.mem_append.1 hp with hp | hp
    · exact (hls.2 p hp).moves hm (fun k cur _ hk => hu8 W hv hrow k cur hk)
    · rw [List.mem_singleton] at hp
      subst hp
      have := hr3.moves hm2 (fun k cur _ hk => hu8 w3 hv3 hrow3 k cur hk)
      simpa [slv, hxl] using this
  · refine hs.bel.trans (hm.to_below (by omega) ?_)
    rintro k o (h | h)
    · omega
    · have := hown _ h.symm
      omega

set_option maxRecDepth 100000 in
set_option maxHeartbeats 8000000 in
theorem records_any {w : World} {lp tp syn : Nat} {sv rv : Value} {f n : List UInt8 × Nat} {st : List (List UInt8 × Nat)} {l : List Part} (h : LogAt w lp tp sv rv f n st l syn) (hl : l.length ≤ 1000000) (hr : ∀ p ∈ l, p.2.2.length ≤ 4096) :
    Calls Tryd.prog 18 #[.pointer (some ⟨lp, 0, none⟩)] w fun e w' => ∃ v l', e = .returned v ∧ Recs w' w.heap.size v l' ∧ l'.map dat = l.map dat ∧ Below w.heap.size w w' := by
  obtain ⟨A, c, rfl, hc1, hc2, hsl⟩ := own_sl h.recs.own
  have hgd : ∀ p ∈ l, PGood w w.heap.size p := fun p hp => by
    obtain ⟨A', c', hv, h1, h2, h3⟩ := (h.recs.rd p hp).sl
    rw [bts_len] at hv h1 h3
    obtain ⟨pa, pc, pl⟩ := p
    simp only [slv] at hv
    cases hv
    exact ⟨h1, h2, h3⟩
  have c1 : w.cell? ⟨lp, 1, none⟩ = some (.slice A l.length c) := h.bk.cell 1
  have hlp := h.bk.lt
  have HSL := Lib.hid hsl
  have HGD := Lib.hid hgd
  have HRL := Lib.hid hr
  clear h hsl hgd hr
  refine (callsIn_wide (n := 9)).1 ?_
  refine callsIn_of_wp_marks Tryd.func18 rfl trivial ?_
  simp only [Tryd.ntmps18, List.size_toArray, List.length_cons, List.length_nil, Nat.reduceAdd, Nat.reduceSub, Array.replicate_succ, Array.replicate_zero, List.push_toArray, List.append_toArray, List.nil_append, List.cons_append]
  gi_wp2_with (gi_at_call 30; refine (callsIn_wide.2 (values_make A l.length c _)).mono ?_; rintro e w2 ⟨rfl, hw2⟩)
  obtain ⟨n₀, hn₀⟩ : ∃ n₀, w.heap.size = n₀ := ⟨_, rfl⟩
  have hn := hn₀.symm
  have HRI : RI w n₀ [] w2 := by
    rw [← hw2]
    refine ⟨⟨.slice none 0 0, [], ?_, World.ownsRow_nil _ _ _ _, rfl, fun p hp => (nomatch hp)⟩, ?_⟩
    · rw [hn]; exact (Bk.new w _ _).alloc _
    · rw [hn]; exact (by (first | assumption | (repeat (first | exact Below.refl _ _ | assumption | apply Below.drew | apply below_drewN | (refine Below.setCell ?_ (by (try simp) <;> omega) _) | (refine Below.alloc ?_ (by (try simp) <;> omega) _)))))
  have hbx : Bk w2 (n₀ + 1) 24 #[.slice A l.length c] := by
    rw [← hw2]
    have := Bk.new (w.alloc (.cells #[.slice none 0 0] 24)) 24 #[.slice A l.length c]
    rw [World.size_alloc, hn₀] at this
    exact this
  have hz2 : w2.heap.size = n₀ + 2 := by rw [← hw2]; simp [hn₀]
  have hS2 : Sl w2 n₀ 1 A l.length (l.map slv) := by
    have := HSL.out.below (B := w.heap.size) (w' := w2) (by rw [hn₀]; exact HRI.bel)
    rwa [hn₀] at this
  have hG2 : ∀ p ∈ l, PGood w2 n₀ p := fun p hp => by
    have := (HGD.out p hp).below (B := w.heap.size) (W' := w2) (by rw [hn₀]; exact HRI.bel) (Nat.le_refl _)
    rwa [hn₀] at this
  rw [hn₀]
  have HN := Lib.hid hn
  clear hw2 HSL HGD hn₀ hn
  refine range_Y (gf := 37) (lb := #[.pointer (some ⟨n₀ + 1, 0, none⟩)]) rfl (enters_of Tryd.func37 (by kernel_rfl) rfl)
    (values_seq 8 n₀ (n₀ + 1) c A l w2 (by omega) hbx hS2 hG2 hl) (fun k o h => h.elim)
    KeepX.trans (fun W l o o' hl ho hc => KeepX.putObj (N := n₀ + 2) (by omega) (by omega) W l o o' (by omega)) (fun _ => rfl)
    (fun pre W => RI w n₀ pre W ∧ n₀ + 2 ≤ W.heap.size) (fun cd pre W => False)
    (fun pre W W' h hm => ⟨h.1.moves HN.out (by rw [hz2] at hm; exact hm), Nat.le_trans h.2 hm.size⟩) (fun cd pre W W' h hm => h)
    ⟨HRI, by omega⟩ (fun pre W h => trivial) ?round ?done ?stop
  case round =>
    intro L pre x W hL hi hlen hy
    have hxr : x.2.2.length ≤ 4096 := by
      obtain ⟨k, hk, he⟩ := hlen
      exact HRL.out x (List.mem_of_mem_take (by rw [← he]; simp : x ∈ l.take k))
    have hpl : pre.length ≤ 1000000 := by
      obtain ⟨k, hk, he⟩ := hlen
      have := congrArg List.length he
      simp at this
      omega
    obtain ⟨xa, xc, xl⟩ := x
    simp only at hxr
    simp only [slv]
    rw [fold_one]
    gi_wp2
    refine ⟨KeepsFrom.refl _ _, KeepX.refl _ _ _, hi, ?_⟩
    clear hi hbx HRI hS2 hG2 hlen hL
    intro W2 hi hm hrec
    have hy2 : PGood W2 n₀ (xa, xc, xl) := ⟨hy.1, hy.2.1, hy.2.2.moves hm (fun k o h => by have := h.1; omega)⟩
    obtain ⟨hri, hz3⟩ := hi
    obtain ⟨v, ls, hv, hrow, hls, hrds⟩ := hri.out
    have hlsl : ls.length = pre.length := by have := congrArg List.length hls; simpa using this
    obtain ⟨i0, hi, hz0, hz1, hz2'⟩ := info_parts info_bytes
    have hcv : W2.cell? ⟨n₀, 0, none⟩ = some v := hv.cell 0
    obtain ⟨xl3, hxl3⟩ : ∃ xl3, xl.length = xl3 := ⟨_, rfl⟩
    have hd1 : Below W2.heap.size W2 W2.drew := (Below.refl _ _).drew
    have HC := Lib.hid (fun (W : World) (hW : Below W2.heap.size W2 W) => clone_any xa xl xc W (by omega) ((hy2.2.2.below (hW.mono (by omega))).more (Nat.le_trans (by omega) hW.size)))
    rw [hxl3] at HC ⊢
    have HXL := Lib.hid hxl3
    have HRI := Lib.hid hri
    have HV := Lib.hid hv
    have HROW := Lib.hid hrow
    have HLS := Lib.hid (And.intro hls hrds)
    have hlsb : ls.length ≤ 1000000 := by omega
    rw [hz2]
    clear hri hv hrow hls hrds hy hy2 hm hxl3 hlsl hpl hxr hz2
    gi_wp2_with fail
    refine wpIn_region_any (by kernel_rfl) ?_
    change wpAnyIn _ _ _ _ _ _ _ _ _ (World.drew _)
    refine wpAnyIn_ready (rs := [0, 1]) (by kernel_rfl) (by simp) ?_
    refine AllReadyIn.cons rfl (fun K hK => ?_) ?_
    · go_simp
      refine hK _ _ ?_
      clear hK K
      refine wpAnyIn_ready (rs := [1]) (by kernel_rfl) (by simp) ?_
      refine AllReadyIn.cons rfl (fun K hK => ?_) ?_
      · go_simp
        refine hK _ _ ?_
        clear hK K
        refine wpAnyIn_ready (rs := [2]) (by kernel_rfl) (by simp) ?_
        refine AllReadyIn.cons rfl (fun K hK => ?_) ?_
        · go_simp
          gi_wp2_with (gi_at_call 29; (with_reducible refine (CallsIn.inRound L (callsIn_wide.2 (HC.out _ hd1))).mono ?_); rintro e w3 ⟨v3, rfl, hr3, hb3, _⟩; have hb3' := hd1.trans (hb3.mono hd1.size); obtain ⟨A3, c3, rfl, hc31, hc32, hr3'⟩ := rd_slice hr3 HXL.out; have hv3 := HV.out.below hb3' HV.out.lt; have cv3 : w3.cell? ⟨n₀, 0, none⟩ = some v := hv3.cell 0; have cv4 : (w3.alloc (.cells #[.slice A3 xl3 c3] 22)).cell? ⟨n₀, 0, none⟩ = some v := (hv3.alloc _).cell 0)
          refine wpAnyIn_ready (rs := [3]) (by kernel_rfl) (by simp) ?_
          refine AllReadyIn.cons rfl (fun K hK => ?_) ?_
          · go_simp
            refine hK _ _ ?_
            clear hK K
            refine wpAnyIn_ready (rs := [4]) (by kernel_rfl) (by simp) ?_
            refine AllReadyIn.cons rfl (fun K hK => ?_) ?_
            · (refine stepIn_append_own _ rfl _ _ 24 rfl (n₀ + 2) 22 i0 _ 1 24 Tryd.underlying24 hi hz0 hz1 hz2' rfl (by decide) v ls.length (ls.map slv) (by rfl) ((own_bl HROW.out hb3').alloc _) ⟨w3.heap.size, 0, none⟩ 1 1 [.slice A3 xl3 c3] (by rfl) (by rfl) (cell_one_new _ _ _) (by simp [Value.oneCell']) (by unfold maxLen; omega) (by omega) (by have := hb3'.size; simp; omega) ?_)
              intro v4 w4 hown4 hgrow4 _
              obtain ⟨g4, cap4, rfl⟩ := ownsRow_succ hown4
              have hv4 := (hv3.alloc (.cells #[.slice A3 xl3 c3] 22)).grown hgrow4 (own_ne (own_bl HROW.out hb3') hv3 (by decide))
              have cv5 := hv4.cell 0
              have fv5 := hv4.frozen 0
              refine hK _ _ ?_
              clear hK K
              refine wpAnyIn_ready (rs := [5]) (by kernel_rfl) (by simp) ?_
              refine AllReadyIn.cons rfl (fun K hK => ?_) ?_
              · go_simp
                refine hK _ _ ?_
                clear hK K
                refine wpAnyIn_done (by kernel_rfl) ?_ _
                exact (RI.step HN.out HRI.out HV.out HROW.out HLS.out hz3 hb3' hr3' HXL.out hgrow4 hown4)
              exact AllReadyIn.nil
            exact AllReadyIn.nil
          exact AllReadyIn.nil
        exact AllReadyIn.nil
      exact AllReadyIn.nil
    refine AllReadyIn.cons rfl (fun K hK => ?_) ?_
    · go_simp
      refine hK _ _ ?_
      clear hK K
      refine wpAnyIn_ready (rs := [0, 2]) (by kernel_rfl) (by simp) ?_
      refine AllReadyIn.cons rfl (fun K hK => ?_) ?_
      · go_simp
        refine hK _ _ ?_
        clear hK K
        refine wpAnyIn_ready (rs := [2]) (by kernel_rfl) (by simp) ?_
        refine AllReadyIn.cons rfl (fun K hK => ?_) ?_
        · go_simp
          gi_wp2_with (gi_at_call 29; (with_reducible refine (CallsIn.inRound L (callsIn_wide.2 (HC.out _ hd1))).mono ?_); rintro e w3 ⟨v3, rfl, hr3, hb3, _⟩; have hb3' := hd1.trans (hb3.mono hd1.size); obtain ⟨A3, c3, rfl, hc31, hc32, hr3'⟩ := rd_slice hr3 HXL.out; have hv3 := HV.out.below hb3' HV.out.lt; have cv3 : w3.cell? ⟨n₀, 0, none⟩ = some v := hv3.cell 0; have cv4 : (w3.alloc (.cells #[.slice A3 xl3 c3] 22)).cell? ⟨n₀, 0, none⟩ = some v := (hv3.alloc _).cell 0)
          refine wpAnyIn_ready (rs := [3]) (by kernel_rfl) (by simp) ?_
          refine AllReadyIn.cons rfl (fun K hK => ?_) ?_
          · go_simp
            refine hK _ _ ?_
            clear hK K
            refine wpAnyIn_ready (rs := [4]) (by kernel_rfl) (by simp) ?_
            refine AllReadyIn.cons rfl (fun K hK => ?_) ?_
            · (refine stepIn_append_own _ rfl _ _ 24 rfl (n₀ + 2) 22 i0 _ 1 24 Tryd.underlying24 hi hz0 hz1 hz2' rfl (by decide) v ls.length (ls.map slv) (by rfl) ((own_bl HROW.out hb3').alloc _) ⟨w3.heap.size, 0, none⟩ 1 1 [.slice A3 xl3 c3] (by rfl) (by rfl) (cell_one_new _ _ _) (by simp [Value.oneCell']) (by unfold maxLen; omega) (by omega) (by have := hb3'.size; simp; omega) ?_)
              intro v4 w4 hown4 hgrow4 _
              obtain ⟨g4, cap4, rfl⟩ := ownsRow_succ hown4
              have hv4 := (hv3.alloc (.cells #[.slice A3 xl3 c3] 22)).grown hgrow4 (own_ne (own_bl HROW.out hb3') hv3 (by decide))
              have cv5 := hv4.cell 0
              have fv5 := hv4.frozen 0
              refine hK _ _ ?_
              clear hK K
              refine wpAnyIn_ready (rs := [5]) (by kernel_rfl) (by simp) ?_
              refine AllReadyIn.cons rfl (fun K hK => ?_) ?_
              · go_simp
                refine hK _ _ ?_
                clear hK K
                refine wpAnyIn_done (by kernel_rfl) ?_ _
                exact (RI.step HN.out HRI.out HV.out HROW.out HLS.out hz3 hb3' hr3' HXL.out hgrow4 hown4)
              exact AllReadyIn.nil
            exact AllReadyIn.nil
          exact AllReadyIn.nil
        exact AllReadyIn.nil
      refine AllReadyIn.cons rfl (fun K hK => ?_) ?_
      · go_simp
        gi_wp2_with (gi_at_call 29; (with_reducible refine (CallsIn.inRound L (callsIn_wide.2 (HC.out _ hd1))).mono ?_); rintro e w3 ⟨v3, rfl, hr3, hb3, _⟩; have hb3' := hd1.trans (hb3.mono hd1.size); obtain ⟨A3, c3, rfl, hc31, hc32, hr3'⟩ := rd_slice hr3 HXL.out; have hv3 := HV.out.below hb3' HV.out.lt; have cv3 : w3.cell? ⟨n₀, 0, none⟩ = some v := hv3.cell 0; have cv4 : (w3.alloc (.cells #[.slice A3 xl3 c3] 22)).cell? ⟨n₀, 0, none⟩ = some v := (hv3.alloc _).cell 0)
        refine wpAnyIn_ready (rs := [0, 3]) (by kernel_rfl) (by simp) ?_
        refine AllReadyIn.cons rfl (fun K hK => ?_) ?_
        · go_simp
          refine hK _ _ ?_
          clear hK K
          refine wpAnyIn_ready (rs := [3]) (by kernel_rfl) (by simp) ?_
          refine AllReadyIn.cons rfl (fun K hK => ?_) ?_
          · go_simp
            refine hK _ _ ?_
            clear hK K
            refine wpAnyIn_ready (rs := [4]) (by kernel_rfl) (by simp) ?_
            refine AllReadyIn.cons rfl (fun K hK => ?_) ?_
            · (refine stepIn_append_own _ rfl _ _ 24 rfl (n₀ + 2) 22 i0 _ 1 24 Tryd.underlying24 hi hz0 hz1 hz2' rfl (by decide) v ls.length (ls.map slv) (by rfl) ((own_bl HROW.out hb3').alloc _) ⟨w3.heap.size, 0, none⟩ 1 1 [.slice A3 xl3 c3] (by rfl) (by rfl) (cell_one_new _ _ _) (by simp [Value.oneCell']) (by unfold maxLen; omega) (by omega) (by have := hb3'.size; simp; omega) ?_)
              intro v4 w4 hown4 hgrow4 _
              obtain ⟨g4, cap4, rfl⟩ := ownsRow_succ hown4
              have hv4 := (hv3.alloc (.cells #[.slice A3 xl3 c3] 22)).grown hgrow4 (own_ne (own_bl HROW.out hb3') hv3 (by decide))
              have cv5 := hv4.cell 0
              have fv5 := hv4.frozen 0
              refine hK _ _ ?_
              clear hK K
              refine wpAnyIn_ready (rs := [5]) (by kernel_rfl) (by simp) ?_
              refine AllReadyIn.cons rfl (fun K hK => ?_) ?_
              · go_simp
                refine hK _ _ ?_
                clear hK K
                refine wpAnyIn_done (by kernel_rfl) ?_ _
                exact (RI.step HN.out HRI.out HV.out HROW.out HLS.out hz3 hb3' hr3' HXL.out hgrow4 hown4)
              exact AllReadyIn.nil
            exact AllReadyIn.nil
          exact AllReadyIn.nil
        refine AllReadyIn.cons rfl (fun K hK => ?_) ?_
        · go_simp
          refine hK _ _ ?_
          clear hK K
          refine wpAnyIn_ready (rs := [0]) (by kernel_rfl) (by simp) ?_
          refine AllReadyIn.cons rfl (fun K hK => ?_) ?_
          · go_simp
            refine hK _ _ ?_
            clear hK K
            refine wpAnyIn_ready (rs := [4]) (by kernel_rfl) (by simp) ?_
            refine AllReadyIn.cons rfl (fun K hK => ?_) ?_
            · (refine stepIn_append_own _ rfl _ _ 24 rfl (n₀ + 2) 22 i0 _ 1 24 Tryd.underlying24 hi hz0 hz1 hz2' rfl (by decide) v ls.length (ls.map slv) (by rfl) ((own_bl HROW.out hb3').alloc _) ⟨w3.heap.size, 0, none⟩ 1 1 [.slice A3 xl3 c3] (by rfl) (by rfl) (cell_one_new _ _ _) (by simp [Value.oneCell']) (by unfold maxLen; omega) (by omega) (by have := hb3'.size; simp; omega) ?_)
              intro v4 w4 hown4 hgrow4 _
              obtain ⟨g4, cap4, rfl⟩ := ownsRow_succ hown4
              have hv4 := (hv3.alloc (.cells #[.slice A3 xl3 c3] 22)).grown hgrow4 (own_ne (own_bl HROW.out hb3') hv3 (by decide))
              have cv5 := hv4.cell 0
              have fv5 := hv4.frozen 0
              refine hK _ _ ?_
              clear hK K
              refine wpAnyIn_ready (rs := [5]) (by kernel_rfl) (by simp) ?_
              refine AllReadyIn.cons rfl (fun K hK => ?_) ?_
              · go_simp
                refine hK _ _ ?_
                clear hK K
                refine wpAnyIn_done (by kernel_rfl) ?_ _
                exact (RI.step HN.out HRI.out HV.out HROW.out HLS.out hz3 hb3' hr3' HXL.out hgrow4 hown4)
              exact AllReadyIn.nil
            exact AllReadyIn.nil
          exact AllReadyIn.nil
        exact AllReadyIn.nil
      exact AllReadyIn.nil
    exact AllReadyIn.nil
  case done =>
    rintro D xs W hD hS ⟨hi, _⟩ hK
    obtain ⟨v, ls, hv, hrow, hls, hrds⟩ := hi.out
    have hcv : W.cell? ⟨n₀, 0, none⟩ = some v := hv.cell 0
    have HR2 := Lib.hid (⟨hrow, hrds⟩ : Recs W (n₀ + 2) v ls)
    have hb2 := hi.bel
    subst hS
    have HLS := Lib.hid hls
    clear hi hv hrow hls hrds
    gi_wp2_with fail
    refine ⟨by simp, .inl ⟨_, _, rfl, run_takeDeferred hK, ?_⟩⟩
    refine ⟨_, results_tmp rfl _ _ _, v, ls, rfl, ⟨?_, ?_⟩, HLS.out, ?_⟩
    · rw [← HN.out]
      exact own_low (ownsRow_putObj HR2.out.own _ hK rfl) (by omega)
    · intro p hp
      refine (HR2.out.rd p hp).moves (X := fun k _ => k = D) (Moves.putObj _ _ _ (fun _ _ => rfl)) (fun k cur _ hk h => ?_)
      rw [h, hK] at hk
      cases hk
    · rw [← HN.out]
      exact hb2.trans ((Moves.putObj (X := fun k _ => n₀ ≤ k) W D _ (fun o _ => by omega)).to_below (by have := hb2.size; rw [← HN.out] at this; exact this) (fun k _ h => h))
  case stop =>
    rintro D cd pre W hD _ h
    exact h.elim
end Go.Proofs.YtpmmojjffjpmbaaDoor
