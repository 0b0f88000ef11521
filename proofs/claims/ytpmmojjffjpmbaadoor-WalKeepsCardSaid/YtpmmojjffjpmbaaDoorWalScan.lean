/- What this text proves: the contract of wal.Scan. The conditions are how the bytes lie in memory, and that the package's table is as its text lays it. -/
import Derived.Test.YtpmmojjffjpmbaaDoorWalFrames
import Derived.Maps.AppendAt
import Derived.Deep.DeepMust
namespace Go.Proofs.YtpmmojjffjpmbaaDoor
open Go.RowKit Go.Shelf
set_option linter.unusedVariables false
set_option linter.unusedSimpArgs false
attribute [local go_sem] Oper.semAt_some wide_fn wide_depth

theorem info_bytes : (Tryd.prog.info? 22).map (fun i => (i.zero, i.size, i.bytes)) = some (some (.slice none 0 0), 1, 24) := by kernel_rfl
/-- A slice of slices of bytes that is one's own. -/
structure Recs (w : World) (N : Nat) (v : Value) (l : List Part) : Prop where
  own : w.ownsRow N 22 1 v l.length (l.map slv)
  rd : ∀ p ∈ l, Rd 5 w (slv p) (bts p.2.2)
def tot (l : List Part) : Nat := (framesF ckW (l.map dat)).length
theorem tot_snoc (l : List Part) (p : Part) : tot (l ++ [p]) = tot l + (6 + p.2.2.length) := by
  simp only [tot, List.map_append, List.map_cons, List.map_nil, framesF_snoc, List.length_append, frameF_len ckW_len, dat]
theorem tot_len : ∀ l : List Part, l.length ≤ tot l
  | [] => by simp
  | p :: l => by
    have := tot_len l
    simp only [tot, List.map_cons, framesF_cons, List.length_append, frameF_len ckW_len, List.length_cons] at this ⊢
    omega
theorem tot_prefix {l : List Part} {b : List UInt8} (h : l.map dat <+: scanW ckW b) : tot l ≤ b.length := by
  obtain ⟨t, ht⟩ := h
  have h1 := (scanW_take (ck := ckW) b).2
  rw [← ht, framesF_append, List.length_append] at h1
  unfold tot
  omega
theorem own_low {w : World} {B B' n : Nat} {e : TypeId} {v : Value} {xs : List Value} (h : w.ownsRow B e 1 v n xs) (hb : B' ≤ B) : w.ownsRow B' e 1 v n xs := by
  refine ⟨h.1, ?_⟩
  rcases h.2 with h | ⟨g, cap, cur, h1, h2, h3⟩
  · exact .inl h
  · exact .inr ⟨g, cap, cur, h1, Nat.le_trans hb h2, h3⟩

theorem fold_one (p : Tmp) (v : Value) (t : Array Value) : (#[p].zip #[v]).foldl (fun t (p, v) => t.setIfInBounds p v) t = t.setIfInBounds p v := by simp
theorem frames_make (A : Option Addr) (n c : Nat) (w : World) :
    Calls Tryd.prog 25 #[.slice A n c] w fun e w' => e = .returned (.func (.func 33) #[] #[.pointer (some ⟨w.heap.size, 0, none⟩)]) ∧ w.alloc (.cells #[.slice A n c] 22) = w' := by
  go_enter Tryd.func25, Tryd.ntmps25
  go_wp2
  go_ret
  exact ⟨rfl, rfl⟩

/-- What the loop in Scan holds: the boxes of what was scanned so far, and of how many bytes. -/
structure SI (w : World) (n₀ : Nat) (pre : List Part) (W : World) : Prop where
  out : ∃ v, Bk W n₀ 24 #[v] ∧ W.ownsRow (n₀ + 3) 22 1 v pre.length (pre.map slv)
  num : Bk W (n₀ + 1) 3 #[.int .i64 (tot pre : Nat)]
  rd : ∀ p ∈ pre, Rd 5 W (slv p) (bts p.2.2)
  bel : Below n₀ w W
theorem SI.moves {w W W' : World} {n₀ : Nat} {pre : List Part} (h : SI w n₀ pre W) (hn : n₀ = w.heap.size) (hm : Moves (fun k o => FX (n₀ + 2) k o ∨ (n₀ + 3 ≤ k ∧ o.isCells = false)) W W') : SI w n₀ pre W' := by
  obtain ⟨⟨v, h1, h2⟩, h3, h4, h5⟩ := h
  refine ⟨⟨v, hm.bk h1 ?_, hm.own h2 ?_⟩, hm.bk h3 ?_, fun p hp => (h4 p hp).moves hm ?_, h5.trans (hm.to_below (by rw [hn]; exact Nat.le_trans (by omega) h5.size) ?_)⟩
  · rintro (⟨h, _⟩ | ⟨h, _⟩) <;> omega
  · rintro g cs hg (⟨h, _⟩ | ⟨_, h⟩)
    · omega
    · cases h
  · rintro (⟨h, _⟩ | ⟨h, _⟩) <;> omega
  · rintro k cur _ _ (⟨_, c, f, he⟩ | ⟨_, h⟩)
    · injection he with _ he; revert he; decide
    · cases h
  · rintro k o (⟨h, _⟩ | ⟨h, _⟩) <;> omega

theorem SI.step {w W w1 : World} {n₀ g cap : Nat} {pre : List Part} {x : Part} {v : Value} (hn : n₀ = w.heap.size) (hs : SI w n₀ pre W) (hv : Bk W n₀ 24 #[v]) (hrow : W.ownsRow (n₀ + 3) 22 1 v pre.length (pre.map slv)) (hz : n₀ + 3 ≤ W.heap.size)
    (hx : Rd 5 W (slv x) (bts x.2.2))
    (hg : (W.alloc (.cells #[slv x] 22)).grownBy w1 v.ownBlock) (ho : w1.ownsRow (n₀ + 3) 22 1 (.slice (some ⟨g, 0, none⟩) (pre.length + 1) cap) (pre.length + 1) (pre.map slv ++ [slv x])) (T : Int) (hT : T = (tot (pre ++ [x]) : Nat)) :
    KeepsFrom (n₀ + 3) W ((w1.setCell ⟨n₀, 0, none⟩ (.slice (some ⟨g, 0, none⟩) (pre.length + 1) cap)).setCell ⟨n₀ + 1, 0, none⟩ (.int .i64 T)) ∧
    KeepX n₀ (n₀ + 2) W ((w1.setCell ⟨n₀, 0, none⟩ (.slice (some ⟨g, 0, none⟩) (pre.length + 1) cap)).setCell ⟨n₀ + 1, 0, none⟩ (.int .i64 T)) ∧
      SI w n₀ (pre ++ [x]) ((w1.setCell ⟨n₀, 0, none⟩ (.slice (some ⟨g, 0, none⟩) (pre.length + 1) cap)).setCell ⟨n₀ + 1, 0, none⟩ (.int .i64 T)) := by
  have hown : ∀ k, v.ownBlock = some k → n₀ + 3 ≤ k := fun k hk => (own_cells hrow hk).1
  have hm1 : Moves (fun k _ => some k = v.ownBlock) W w1 := (Moves.alloc _ W _).trans_ (Moves.grown hg (fun _ _ h => h)) (fun _ _ _ h => h)
  have hv1 := hm1.bk hv (fun e => by have := hown _ e.symm; omega)
  have hn1 := hm1.bk hs.num (fun e => by have := hown _ e.symm; omega)
  have hm : Moves (fun k _ => k = n₀ ∨ k = n₀ + 1 ∨ some k = v.ownBlock) W ((w1.setCell ⟨n₀, 0, none⟩ (.slice (some ⟨g, 0, none⟩) (pre.length + 1) cap)).setCell ⟨n₀ + 1, 0, none⟩ (.int .i64 T)) :=
    ((hm1.more fun _ _ h => .inr (.inr h)).trans_ (Moves.setCell _ _ _ (fun _ _ => .inl rfl)) (fun _ _ _ h => h)).trans_ (Moves.setCell _ _ _ (fun _ _ => .inr (.inl rfl))) (fun _ _ _ h => h)
  have hu8 : ∀ k cur, W.heap[k]? = some (.cells cur 5 (0, 0)) → ¬ (k = n₀ ∨ k = n₀ + 1 ∨ some k = v.ownBlock) := by
    rintro k cur hk (rfl | rfl | h)
    · exact Bk.ne_ hv hk (by decide) rfl
    · exact Bk.ne_ hs.num hk (by decide) rfl
    · obtain ⟨_, _, c, hc⟩ := own_cells hrow h.symm
      exact Bk.ne_ (g := k) hc hk (by decide) rfl
  refine ⟨⟨hm.size, fun k o hB hk ho' => hm.block k o hk ?_⟩, KeepX.moves hm ?_, ⟨.slice (some ⟨g, 0, none⟩) (pre.length + 1) cap, ?_, ?_⟩, ?_, ?_, ?_⟩
  · rintro (h | h | h)
    · omega
    · omega
    · obtain ⟨_, _, c, hc⟩ := own_cells hrow h.symm
      rw [hc] at hk
      cases hk
      cases ho'
  · rintro k o (h | h | h)
    · omega
    · omega
    · have := hown _ h.symm
      omega
  · have := (hv1.set_ 0 (.slice (some ⟨g, 0, none⟩) (pre.length + 1) cap)).far (p := ⟨n₀ + 1, 0, none⟩) (by simp) (.int .i64 T)
    simpa using this
  · rw [List.length_append, List.map_append]
    exact own_far (own_far ho (p := ⟨n₀, 0, none⟩) (own_ne ho hv1 (by decide)) _) (p := ⟨n₀ + 1, 0, none⟩) (own_ne ho hn1 (by decide)) _
  · have h1 : Bk (w1.setCell ⟨n₀, 0, none⟩ (.slice (some ⟨g, 0, none⟩) (pre.length + 1) cap)) (n₀ + 1) 3 #[.int .i64 (tot pre : Nat)] := hn1.far (p := ⟨n₀, 0, none⟩) (by simp) _
    have := h1.set_ 0 (.int .i64 T)
    rw [hT] at this ⊢
    simpa using this
  · intro p hp
    rcases List.mem_append.1 hp with hp | hp
    · exact (hs.rd p hp).moves hm (fun k cur _ hk => hu8 k cur hk)
    · rw [List.mem_singleton] at hp
      subst hp
      exact hx.moves hm (fun k cur _ hk => hu8 k cur hk)
  · refine hs.bel.trans (hm.to_below (by omega) ?_)
    rintro k o (h | h | h)
    · omega
    · omega
    · have := hown _ h.symm
      omega

set_option maxRecDepth 100000 in
set_option maxHeartbeats 4000000 in
theorem scan_any (A : Option Addr) (b : List UInt8) (c : Nat) (w : World) (hr : Roots w) (h0 : 0 < w.heap.size) (hbc : b.length ≤ c) (hc : c ≤ maxLen) (hb2 : b.length ≤ 2000000) (hA : Sl w w.heap.size 1 A b.length (bts b)) :
    Calls Tryd.prog 9 #[.slice A b.length c] w fun e w' => ∃ v l, e = .returned (.tuple #[v, .int .i64 ((framesF ckW (scanW ckW b)).length : Nat)]) ∧ Recs w' w.heap.size v l ∧ l.map dat = scanW ckW b ∧ Below w.heap.size w w' := by
  have HA := Lib.hid hA
  have HR := Lib.hid hr
  clear hA hr
  refine (callsIn_wide (n := 9)).1 ?_
  refine callsIn_of_wp_marks Tryd.func9 rfl trivial ?_
  simp only [Tryd.ntmps9, List.size_toArray, List.length_cons, List.length_nil, Nat.reduceAdd, Nat.reduceSub, Array.replicate_succ, Array.replicate_zero, List.push_toArray, List.append_toArray, List.nil_append, List.cons_append]
  gi_wp2_with (gi_at_call 25; refine (callsIn_wide.2 (frames_make A b.length c _)).mono ?_; rintro e w2 ⟨rfl, hw2⟩)
  obtain ⟨n₀, hn₀⟩ : ∃ n₀, w.heap.size = n₀ := ⟨_, rfl⟩
  have hn := hn₀.symm
  have HSI : SI w n₀ [] w2 := by
    rw [← hw2]
    refine ⟨⟨.slice none 0 0, ?_, World.ownsRow_nil _ _ _ _⟩, ?_, fun p hp => (nomatch hp), ?_⟩
    · rw [hn]; exact ((Bk.new w _ _).alloc _).alloc _
    · have := (Bk.new (w.alloc (.cells #[.slice none 0 0] 24)) 3 #[.int .i64 0]).alloc (.cells #[.slice A b.length c] 22)
      rw [World.size_alloc, hn₀] at this
      exact this
    · rw [hn]; exact (by (first | assumption | (repeat (first | exact Below.refl _ _ | assumption | apply Below.drew | apply below_drewN | (refine Below.setCell ?_ (by (try simp) <;> omega) _) | (refine Below.alloc ?_ (by (try simp) <;> omega) _)))))
  have hbx : Bk w2 (n₀ + 2) 22 #[.slice A b.length c] := by
    rw [← hw2]
    have := Bk.new ((w.alloc (.cells #[.slice none 0 0] 24)).alloc (.cells #[.int .i64 0] 3)) 22 #[.slice A b.length c]
    rw [World.size_alloc, World.size_alloc, hn₀] at this
    exact this
  have hz2 : w2.heap.size = n₀ + 3 := by rw [← hw2]; simp [hn₀]
  have hA2 : Sl w2 n₀ 1 A b.length (bts b) := by
    have := HA.out.below (B := w.heap.size) (w' := w2) (by rw [hn₀]; exact HSI.bel)
    rwa [hn₀] at this
  have hR2 : Roots w2 := HR.out.below HSI.bel (by omega)
  rw [hn₀]
  have e2 : n₀ + 1 + 1 = n₀ + 2 := rfl
  rw [e2]
  have HN := Lib.hid hn
  have h0' : 0 < n₀ := by omega
  clear hw2 HA HR e2 hn₀ hn h0
  refine range_Y (gf := 33) (lb := #[.pointer (some ⟨n₀ + 2, 0, none⟩)]) rfl (enters_of Tryd.func33 (by kernel_rfl) rfl)
    (frames_seq 8 n₀ (n₀ + 2) c A b w2 (by omega) hbx (by omega) hbc hc hA2 hR2 h0') (fun k o h => by obtain ⟨_, c, f, rfl⟩ := h; rfl)
    KeepX.trans (fun W l o o' hl ho hc => KeepX.putObj (N := n₀ + 3) (by omega) (by omega) W l o o' (by omega)) (fun _ => rfl)
    (fun pre W => SI w n₀ pre W ∧ n₀ + 3 ≤ W.heap.size) (fun cd pre W => False)
    (fun pre W W' h hm => ⟨h.1.moves HN.out (by rw [hz2] at hm; exact hm), Nat.le_trans h.2 hm.size⟩) (fun cd pre W W' h hm => h)
    ⟨HSI, by omega⟩ (fun pre W h => trivial) ?round ?done ?stop
  case round =>
    intro L pre x W hL hi hlen hy
    have htb := tot_prefix hlen
    have hts := tot_snoc pre x
    have htl := tot_len pre
    obtain ⟨xa, xc, xl⟩ := x
    simp only [slv] at hy hts ⊢
    rw [fold_one]
    gi_wp2
    refine ⟨KeepsFrom.refl _ _, KeepX.refl _ _ _, hi, ?_⟩
    clear hi hbx HSI hA2 hR2 hlen hL
    intro W2 hi hm hrec
    have hy2 : Rd 5 W2 (slv (xa, xc, xl)) (bts xl) := hy.moves hm (fun k cur _ hk h => by cases h.2)
    obtain ⟨hsi, hz3⟩ := hi
    obtain ⟨v, hv, hrow⟩ := hsi.out
    have hcn := hsi.num.cell 0
    have hcv := hv.cell 0
    obtain ⟨i0, hi, hz0, hz1, hz2'⟩ := info_parts info_bytes
    obtain ⟨T, hT⟩ : ∃ T, tot pre = T := ⟨_, rfl⟩
    obtain ⟨T', hT'⟩ : ∃ T, tot (pre ++ [(xa, xc, xl)]) = T := ⟨_, rfl⟩
    have HT' := Lib.hid hT'
    have HNU := Lib.hid hsi.num
    have HSI2 := Lib.hid hsi
    rw [hT'] at htb hts
    rw [hT] at hts htl hcn HNU
    have HTN : Hid ((T : Int) + (6 + (xl.length : Int)) = (T' : Int)) := Lib.hid (by omega)
    have hTb : T + (6 + xl.length) ≤ 2000000 := by omega
    clear hts htb
    have HY2 := Lib.hid hy2
    have HV := Lib.hid hv
    have HROW := Lib.hid hrow
    clear hsi hv hrow hy hy2 hT hT' hm
    gi_wp2_with (gi_at_builtin; go_loud (refine wpListIn_append_own _ rfl _ _ 24 rfl (n₀ + 3) 22 i0 _ 1 24 Tryd.underlying24 hi hz0 hz1 hz2' rfl (by decide) _ _ _ rfl (HROW.out.alloc _) ⟨W2.heap.size, 0, none⟩ 1 1 [slv (xa, xc, xl)] rfl rfl (cell_one_new _ _ _) (by simp [slv, Value.oneCell']) (by unfold maxLen; omega) (by omega) (by simp; omega) ?_; intro v' w1 hown' hgrow _; obtain ⟨g', cap', rfl⟩ := ownsRow_succ hown'; have hv1 := (HV.out.alloc (.cells #[slv (xa, xc, xl)] 22)).grown hgrow (own_ne HROW.out HV.out (by decide)); have hn1 := (HNU.out.alloc (.cells #[slv (xa, xc, xl)] 22)).grown hgrow (own_ne HROW.out HNU.out (by decide)); have hf1 := hv1.frozen 0; have hc1 := hv1.cell 0; have hn2 := hn1.far (p := ⟨n₀, 0, none⟩) (by simp) (.slice (some ⟨g', 0, none⟩) (pre.length + 1) cap'); have hcn2 := hn2.cell 0; have hfn2 := hn2.frozen 0))
    obtain ⟨s1, s2, s3⟩ := SI.step HN.out HSI2.out HV.out HROW.out hz3 HY2.out hgrow hown' ((T : Int) + (6 + (xl.length : Int))) (by rw [HTN.out, HT'.out])
    exact ⟨by rw [hz2]; exact s1, s2, s3, Nat.le_trans hz3 s1.size⟩
  case done =>
    rintro D xs W hD hS ⟨hi, _⟩ hK
    obtain ⟨v, hv, hrow⟩ := hi.out
    have hcn := hi.num.cell 0
    have hcv := hv.cell 0
    gi_wp2_with fail
    gi_quiet (fail)
    have hr2 : Recs (W.drewN nq) (n₀ + 3) v xs := ⟨hrow, hi.rd⟩
    have hb2 : Below n₀ w (W.drewN nq) := below_drewN hi.bel nq
    have hK2 : (W.drewN nq).heap[D]? = some (.deferred (some [])) := hK
    have HR2 := Lib.hid hr2
    obtain ⟨W', hW'⟩ : ∃ x, W.drewN nq = x := ⟨_, rfl⟩
    rw [hW'] at HR2 hb2 hK2 ⊢
    gi_wp2_with fail
    refine ⟨by simp, .inl ⟨_, _, rfl, run_takeDeferred hK2, ?_⟩⟩
    have htt : tot xs = (framesF ckW (scanW ckW b)).length := by rw [tot, hS]
    refine ⟨_, results_tmp2 rfl _ _ _, v, xs, by rw [← htt]; rfl, ⟨?_, ?_⟩, hS, ?_⟩
    · rw [← HN.out]
      exact own_low (ownsRow_putObj HR2.out.own _ hK2 rfl) (by omega)
    · intro p hp
      refine (HR2.out.rd p hp).moves (X := fun k _ => k = D) (Moves.putObj _ _ _ (fun _ _ => rfl)) (fun k cur _ hk h => ?_)
      rw [h, hK2] at hk
      cases hk
    · rw [← HN.out]
      exact hb2.trans ((Moves.putObj (X := fun k _ => n₀ ≤ k) W' D _ (fun o _ => by omega)).to_below (by have := hb2.size; rw [← HN.out] at this; exact this) (fun k _ h => h))
  case stop =>
    rintro D cd pre W hD _ h
    exact h.elim
end Go.Proofs.YtpmmojjffjpmbaaDoor
