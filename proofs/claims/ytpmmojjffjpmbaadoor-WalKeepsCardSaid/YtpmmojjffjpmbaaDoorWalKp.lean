/- What this text proves: what the law WalKeeps holds behind each operation, and that it stays. The conditions are how the values lie in memory. -/
import Derived.Test.YtpmmojjffjpmbaaDoorWalHist
namespace Go.Proofs.YtpmmojjffjpmbaaDoor
open Go.RowKit
set_option linter.unusedVariables false
set_option linter.unusedSimpArgs false

theorem info_int : (Tryd.prog.info? 3).map (fun i => (i.zero, i.size, i.bytes)) = some (some (.int .i64 0), 1, 8) := by kernel_rfl
def c1s (N : List (Nat × Nat)) : List Value := N.map fun p => .int .i64 (p.1 : Nat)
def c2s (N : List (Nat × Nat)) : List Value := N.map fun p => .int .i64 (p.2 : Nat)
/-- What lies behind k operations. -/
structure KJ (w0 : World) (B lp : Nat) (N : List (Nat × Nat)) (k : Nat) (sv rv : Value) (st : List StepV) (lr : List Part) (ls : List (List UInt8)) (n : StepV) (syn : Nat) (wr : World) : Prop where
  log : LogAt wr lp B sv rv ([], 0) n st lr syn
  dat : lr.map dat = ls
  kept : KeptL B lp B sv rv
  hist : Hist N st ls n syn
  stl : st.length ≤ k + 1
  fl : (framesF ckW ls).length ≤ 4102 * k
  bel : Below B w0 wr
/-- The two rows of numbers. -/
structure KR (B : Nat) (N : List (Nat × Nat)) (vc vs : Value) (wr : World) : Prop where
  calls : wr.ownsRow B 3 1 vc N.length (c1s N)
  sure : wr.ownsRow B 3 1 vs N.length (c2s N)
  sep : ∀ x, vc.ownBlock = some x → vs.ownBlock ≠ some x
section
variable {w0 wr wx : World} {B lp k k' syn : Nat} {N : List (Nat × Nat)} {sv rv vc vs : Value} {st : List StepV} {lr : List Part} {ls : List (List UInt8)} {n f : StepV}
theorem KJ.below (h : KJ w0 B lp N k sv rv st lr ls n syn wr) (hb : Below wr.heap.size wr wx) (hB : B ≤ wr.heap.size) (hk : k ≤ k') : KJ w0 B lp N k' sv rv st lr ls n syn wx :=
  ⟨h.log.below hb (Nat.le_refl _), h.dat, h.kept, h.hist, by have := h.stl; omega, by have := h.fl; omega, h.bel.trans (hb.mono hB)⟩
theorem own_below {e : TypeId} {m : Nat} {v : Value} {xs : List Value} (h : wr.ownsRow B e 1 v m xs) (hb : Below wr.heap.size wr wx) : wx.ownsRow B e 1 v m xs := own_bl h hb
theorem KR.below (h : KR B N vc vs wr) (hb : Below wr.heap.size wr wx) : KR B N vc vs wx := ⟨own_bl h.calls hb, own_bl h.sure hb, h.sep⟩
theorem own_moves {X : Nat → Obj → Prop} {e : TypeId} {m : Nat} {v : Value} {xs : List Value} (h : wr.ownsRow B e 1 v m xs) (hm : Moves X wr wx) (hx : ∀ k cur, v.ownBlock = some k → wr.heap[k]? = some (.cells cur e (0, 0)) → ¬ X k (.cells cur e (0, 0))) : wx.ownsRow B e 1 v m xs := by
  refine ⟨h.1, ?_⟩
  rcases h.2 with hn | ⟨g, cap, cur, hv, hb, hg, rest⟩
  · exact .inl hn
  · exact .inr ⟨g, cap, cur, hv, hb, hm.block g _ hg (hx g cur (by rw [hv]; rfl) hg), rest⟩
/-- Numbers stay where the log turns. -/
theorem int_lmoves {tp m : Nat} {v : Value} {xs : List Value} (h : wr.ownsRow B 3 1 v m xs) (hl : LogAt wr lp tp sv rv f n st lr syn) (hm : Moves (LogX lp tp sv rv) wr wx) : wx.ownsRow B 3 1 v m xs := by
  refine own_moves h hm ?_
  rintro k cur _ hk (e | e | e | e)
  · rw [e] at hk; exact Bk.ne_ (g := lp) hk hl.bk (by decide) rfl
  · obtain ⟨c', hc'⟩ := hl.tape.bk_tape
    rw [e] at hk; exact Bk.ne_ (g := tp) hk hc' (by decide) rfl
  · obtain ⟨c', hc'⟩ := hl.tape.own_step e.symm
    exact Bk.ne_ (g := k) hk hc' (by decide) rfl
  · obtain ⟨_, _, c', hc'⟩ := own_cells hl.recs.own e.symm
    exact Bk.ne_ (g := k) hk hc' (by decide) rfl
theorem KR.lmoves {tp : Nat} (h : KR B N vc vs wr) (hl : LogAt wr lp tp sv rv f n st lr syn) (hm : Moves (LogX lp tp sv rv) wr wx) : KR B N vc vs wx := ⟨int_lmoves h.calls hl hm, int_lmoves h.sure hl hm, h.sep⟩
/-- The log stays where a row of numbers turns. -/
theorem LogAt.imoves {tp m : Nat} {v : Value} {xs : List Value} (h : LogAt wr lp tp sv rv f n st lr syn) (hv : wr.ownsRow B 3 1 v m xs) (hm : Moves (fun k _ => some k = v.ownBlock) wr wx) : LogAt wx lp tp sv rv f n st lr syn := by
  have ht : ∀ k t c, t ≠ 3 → wr.heap[k]? = some (.cells c t (0, 0)) → some k ≠ v.ownBlock := fun k t c hne hk e => by
    obtain ⟨_, _, cs, hcs⟩ := own_cells hv e.symm
    exact Bk.ne_ (g := k) hk hcs hne rfl
  refine ⟨hm.bk h.bk (ht _ _ _ (by decide) h.bk), h.tape.moves hm ?_ ?_ (fun k cur _ hk => ht _ _ _ (by decide) hk), h.recs.moves hm (fun k cur _ hk => ht _ _ _ (by decide) hk) (fun k cur hk => ht _ _ _ (by decide) hk)⟩
  · intro o
    obtain ⟨c, hc⟩ := h.tape.bk_tape
    exact ht _ _ _ (by decide) hc
  · intro k o hk
    obtain ⟨c, hc⟩ := h.tape.own_step hk
    exact ht _ _ _ (by decide) hc
theorem KJ.imoves {m : Nat} {v : Value} {xs : List Value} (h : KJ w0 B lp N k sv rv st lr ls n syn wr) (hB : B ≤ wr.heap.size) (hv : wr.ownsRow B 3 1 v m xs) (hm : Moves (fun k _ => some k = v.ownBlock) wr wx) : KJ w0 B lp N k sv rv st lr ls n syn wx :=
  ⟨h.log.imoves hv hm, h.dat, h.kept, h.hist, h.stl, h.fl, h.bel.trans (hm.to_below hB (fun k o e => (own_cells hv e.symm).1))⟩
/-- What a row of numbers' append turns. -/
theorem grow_moves {v : Value} {x : Value} (hg : (wr.alloc (.cells #[x] 3)).grownBy wx v.ownBlock) : Moves (fun k _ => some k = v.ownBlock) wr wx := (Moves.alloc _ wr _).trans_ (Moves.grown hg (fun _ _ h => h)) (fun _ _ _ h => h)
/-- The operations. -/
theorem kj_sync {e : Ending} (h : KJ w0 B lp N k sv rv st lr ls n syn wr) (hB : B ≤ wr.heap.size) (hr : KR B N vc vs wr) (hd : LDid wr lp B sv rv ([], 0) (n.1, n.1.length) (st ++ [(n.1, n.1.length)]) (lr.map dat) lr.length e wx) :
    ∃ sv' rv' lr', KJ w0 B lp (N ++ [(st.length + 1, ls.length)]) (k + 1) sv' rv' (st ++ [(n.1, n.1.length)]) lr' ls (n.1, n.1.length) ls.length wx ∧ KR B N vc vs wx := by
  obtain ⟨sv', rv', lr', _, h1, h2, h3, h4, h5, _⟩ := ldid_kept h.kept hB hd
  have hl : lr.length = ls.length := by rw [← h.dat, List.length_map]
  rw [hl] at h1
  have hstl := h.stl
  have hfl := h.fl
  exact ⟨sv', rv', lr', ⟨h1, by rw [h2, h.dat], h3, h.hist.sync, by simp; omega, by omega, h.bel.trans h5⟩, hr.lmoves h.log h4⟩
theorem kj_app {e : Ending} {r : List UInt8} (h : KJ w0 B lp N k sv rv st lr ls n syn wr) (hB : B ≤ wr.heap.size) (hr : KR B N vc vs wr) (hg : goodR r) (hd : LDid wr lp B sv rv ([], 0) (n.1 ++ frameF ckW r, n.2) (st ++ [(n.1 ++ frameF ckW r, n.2)]) (lr.map dat ++ [r]) syn e wx) :
    ∃ sv' rv' lr', KJ w0 B lp (N ++ [(st.length + 1, syn)]) (k + 1) sv' rv' (st ++ [(n.1 ++ frameF ckW r, n.2)]) lr' (ls ++ [r]) (n.1 ++ frameF ckW r, n.2) syn wx ∧ KR B N vc vs wx := by
  obtain ⟨sv', rv', lr', _, h1, h2, h3, h4, h5, _⟩ := ldid_kept h.kept hB hd
  have hstl := h.stl
  have hfl := h.fl
  have hrl := hg.2
  exact ⟨sv', rv', lr', ⟨h1, by rw [h2, h.dat], h3, h.hist.snoc hg, by simp; omega, by rw [framesF_snoc, List.length_append, frameF_len ckW_len]; omega, h.bel.trans h5⟩, hr.lmoves h.log h4⟩
theorem own_one (w : World) (x : Value) : (w.alloc (.cells #[x] 3)).ownsRow w.heap.size 3 1 (.slice (some ⟨w.heap.size, 0, none⟩) 1 1) 1 [x] :=
  ⟨rfl, .inr ⟨w.heap.size, 1, #[x], rfl, Nat.le_refl _, heap_alloc_new w _, Nat.le_refl _, by unfold maxLen; omega, rfl, rfl⟩⟩
end
end Go.Proofs.YtpmmojjffjpmbaaDoor
