/- What this text proves: the contracts of a log's methods, over what a log holds in memory. The conditions are how a log lies in memory, and that the package's table is as its text lays it. -/
import Derived.Test.YtpmmojjffjpmbaaDoorWalScan
import Derived.Test.YtpmmojjffjpmbaaDoorTapeKept
import Derived.Deep.AppendLies
import Derived.Deep.RegionLaw
import Derived.Deep.CutBlock
import Derived.Deep.DeepCutAuto
namespace Go.Proofs.YtpmmojjffjpmbaaDoor
open Go.RowKit
set_option linter.unusedVariables false
set_option linter.unusedSimpArgs false

/-- A log at block lp, on a tape at block tp. -/
structure LogAt (w : World) (lp tp : Nat) (sv rv : Value) (f n : List UInt8 × Nat) (st : List (List UInt8 × Nat)) (l : List Part) (syn : Nat) : Prop where
  bk : Bk w lp 60 #[.pointer (some ⟨tp, 0, none⟩), rv, .int .i64 (syn : Nat)]
  tape : TapeAt w tp sv f n st
  recs : Recs w 0 rv l
/-- The blocks that a log's methods turn. -/
def LogX (lp tp : Nat) (sv rv : Value) (k : Nat) (_ : Obj) : Prop := k = lp ∨ k = tp ∨ some k = sv.ownBlock ∨ some k = rv.ownBlock
/-- All that is a log's lies at B or behind. -/
structure KeptL (B lp tp : Nat) (sv rv : Value) : Prop where
  lp : B ≤ lp
  tp : B ≤ tp
  sv : ∀ k, sv.ownBlock = some k → B ≤ k
  rv : ∀ k, rv.ownBlock = some k → B ≤ k
section
variable {w w' : World} {lp tp syn : Nat} {sv rv : Value} {f n : List UInt8 × Nat} {st : List (List UInt8 × Nat)} {l : List Part}
theorem Recs.moves {N : Nat} {X : Nat → Obj → Prop} {v : Value} (h : Recs w N v l) (hm : Moves X w w') (h1 : ∀ k cur, v.ownBlock = some k → w.heap[k]? = some (.cells cur 22 (0, 0)) → ¬ X k (.cells cur 22 (0, 0)))
    (h2 : ∀ k cur, w.heap[k]? = some (.cells cur 5 (0, 0)) → ¬ X k (.cells cur 5 (0, 0))) : Recs w' N v l := by
  refine ⟨⟨h.own.1, ?_⟩, fun p hp => (h.rd p hp).moves hm (fun k cur _ hk => h2 k cur hk)⟩
  rcases h.own.2 with hn | ⟨g, cap, cur, hv, hb, hg, rest⟩
  · exact .inl hn
  · exact .inr ⟨g, cap, cur, hv, hb, hm.block g _ hg (h1 g cur (by rw [hv]; rfl) hg), rest⟩
theorem Recs.below {N B : Nat} {v : Value} (h : Recs w N v l) (hb : Below B w w') (hB : w.heap.size ≤ B) : Recs w' N v l :=
  h.moves (Moves.below (fun _ _ => False) hb hB) (fun _ _ _ _ h => h) (fun _ _ _ h => h)
theorem LogAt.below {B : Nat} (h : LogAt w lp tp sv rv f n st l syn) (hb : Below B w w') (hB : w.heap.size ≤ B) : LogAt w' lp tp sv rv f n st l syn :=
  ⟨h.bk.below hb (Nat.lt_of_lt_of_le h.bk.lt hB), h.tape.below hb hB, h.recs.below hb hB⟩
theorem TapeAt.own_step (h : TapeAt w tp sv f n st) {k : Nat} (hk : sv.ownBlock = some k) : ∃ c, w.heap[k]? = some (.cells c 55 (0, 0)) := by
  obtain ⟨cs, ho, _⟩ := h.own
  exact (own_cells ho hk).2.2
theorem TapeAt.bk_tape (h : TapeAt w tp sv f n st) : ∃ c, Bk w tp 58 c := by
  obtain ⟨_, _, hb, _⟩ := h.bk
  exact ⟨_, hb⟩
/-- The tape's blocks are no log's, and no bytes. -/
theorem LogAt.lp_far (h : LogAt w lp tp sv rv f n st l syn) (k : Nat) (o : Obj) (hk : TapeX tp sv k o) : lp ≠ k := by
  rintro rfl
  rcases hk with rfl | hk
  · obtain ⟨c, hc⟩ := h.tape.bk_tape
    exact Bk.ne_ h.bk hc (by decide) rfl
  · obtain ⟨c, hc⟩ := h.tape.own_step hk.symm
    exact Bk.ne_ (g := lp) h.bk hc (by decide) rfl
theorem tape_tag (h : TapeAt w tp sv f n st) {k : Nat} {o : Obj} {t : TypeId} {c : Array Value} (hk : TapeX tp sv k o) (hc : w.heap[k]? = some (.cells c t (0, 0))) (h1 : t ≠ 58) (h2 : t ≠ 55) : False := by
  rcases hk with rfl | hk
  · obtain ⟨c', hc'⟩ := h.bk_tape
    exact Bk.ne_ (g := k) hc hc' h1 rfl
  · obtain ⟨c', hc'⟩ := h.own_step hk.symm
    exact Bk.ne_ (g := k) hc hc' h2 rfl
theorem Recs.tape {N : Nat} {v : Value} (h : Recs w N v l) (ht : TapeAt w tp sv f n st) (hm : Moves (TapeX tp sv) w w') : Recs w' N v l :=
  h.moves hm (fun k cur _ hk hx => tape_tag ht hx hk (by decide) (by decide)) (fun k cur hk hx => tape_tag ht hx hk (by decide) (by decide))
end

theorem synced_any {w : World} {lp tp syn : Nat} {sv rv : Value} {f n : List UInt8 × Nat} {st : List (List UInt8 × Nat)} {l : List Part} (h : LogAt w lp tp sv rv f n st l syn) :
    Calls Tryd.prog 19 #[.pointer (some ⟨lp, 0, none⟩)] w fun e w' => e = .returned (.int .i64 (syn : Nat)) ∧ w = w' := by
  have c2 := h.bk.cell 2
  clear h
  go_enter Tryd.func19, Tryd.ntmps19
  go_wp2
  go_ret
  exact ⟨rfl, rfl⟩

/-- What a call leaves. -/
def LDid (w : World) (lp tp : Nat) (sv rv : Value) (f n : List UInt8 × Nat) (st : List (List UInt8 × Nat)) (ls : List (List UInt8)) (syn : Nat) (e : Ending) (w' : World) : Prop :=
  ∃ sv' rv' l', e = .returned (.int .i64 0) ∧ LogAt w' lp tp sv' rv' f n st l' syn ∧ l'.map dat = ls ∧ Moves (LogX lp tp sv rv) w w' ∧ (∀ k, sv'.ownBlock = some k → sv.ownBlock = some k ∨ w.heap.size ≤ k) ∧ (∀ k, rv'.ownBlock = some k → rv.ownBlock = some k ∨ w.heap.size ≤ k)
theorem ldid_kept {B : Nat} {w w' : World} {lp tp syn : Nat} {sv rv : Value} {f n : List UInt8 × Nat} {st : List (List UInt8 × Nat)} {ls : List (List UInt8)} {e : Ending} (ho : KeptL B lp tp sv rv) (hB : B ≤ w.heap.size) (h : LDid w lp tp sv rv f n st ls syn e w') :
    ∃ sv' rv' l', e = .returned (.int .i64 0) ∧ LogAt w' lp tp sv' rv' f n st l' syn ∧ l'.map dat = ls ∧ KeptL B lp tp sv' rv' ∧ Moves (LogX lp tp sv rv) w w' ∧ Below B w w' ∧ (∀ k, rv'.ownBlock = some k → rv.ownBlock = some k ∨ w.heap.size ≤ k) := by
  obtain ⟨sv', rv', l', rfl, h1, h2, h3, h4, h5⟩ := h
  refine ⟨sv', rv', l', rfl, h1, h2, ⟨ho.lp, ho.tp, fun k hk => ?_, fun k hk => ?_⟩, h3, h3.to_below hB ?_, h5⟩
  · rcases h4 k hk with h | h
    · exact ho.sv k h
    · omega
  · rcases h5 k hk with h | h
    · exact ho.rv k h
    · omega
  · rintro k o (h | h | h | h)
    · rw [h]; exact ho.lp
    · rw [h]; exact ho.tp
    · exact ho.sv k h.symm
    · exact ho.rv k h.symm

set_option maxHeartbeats 1000000 in
theorem lsync_any {w : World} {lp tp syn : Nat} {sv rv : Value} {f n : List UInt8 × Nat} {st : List (List UInt8 × Nat)} {l : List Part} (h : LogAt w lp tp sv rv f n st l syn) (hn : st.length ≤ 1000000) :
    Calls Tryd.prog 17 #[.pointer (some ⟨lp, 0, none⟩)] w (LDid w lp tp sv rv f (n.1, n.1.length) (st ++ [(n.1, n.1.length)]) (l.map dat) l.length) := by
  obtain ⟨A, c, rfl, hc1, hc2, _⟩ := own_sl h.recs.own
  have c0 := h.bk.cell 0
  have c1 := h.bk.cell 1
  have c2 := h.bk.cell 2
  have f2 := h.bk.frozen 2
  have hm : Moves (fun k _ => k = lp) w (w.setCell ⟨lp, 2, none⟩ (.int .i64 (l.length : Nat))) := Moves.setCell _ _ _ (fun _ _ => rfl)
  have hb1 : Bk (w.setCell ⟨lp, 2, none⟩ (.int .i64 (l.length : Nat))) lp 60 #[.pointer (some ⟨tp, 0, none⟩), .slice A l.length c, .int .i64 (l.length : Nat)] := by
    have := h.bk.set_ 2 (.int .i64 (l.length : Nat))
    simpa using this
  have ht1 : TapeAt (w.setCell ⟨lp, 2, none⟩ (.int .i64 (l.length : Nat))) tp sv f n st := h.tape.moves hm (fun o e => by obtain ⟨c, hc⟩ := h.tape.bk_tape; exact Bk.ne_ h.bk hc (by decide) e.symm)
    (fun k o hk e => by obtain ⟨c, hc⟩ := h.tape.own_step hk; rw [e] at hc; exact Bk.ne_ (g := lp) h.bk hc (by decide) rfl) (fun k cur _ hk e => by rw [e] at hk; exact Bk.ne_ (g := lp) h.bk hk (by decide) rfl)
  have hr1 : Recs (w.setCell ⟨lp, 2, none⟩ (.int .i64 (l.length : Nat))) 0 (.slice A l.length c) l := h.recs.moves hm (fun k cur _ hk e => by rw [e] at hk; exact Bk.ne_ (g := lp) h.bk hk (by decide) rfl) (fun k cur hk e => by rw [e] at hk; exact Bk.ne_ (g := lp) h.bk hk (by decide) rfl)
  have HL := Lib.hid (⟨hb1, ht1, hr1⟩ : LogAt _ lp tp sv (.slice A l.length c) f n st l l.length)
  have HM := Lib.hid hm
  clear h hb1 ht1 hr1 hm
  go_enter Tryd.func17, Tryd.ntmps17
  go_wp2_with fail
  with_reducible refine (sync_any tp sv f n st _ HL.out.tape hn).mono ?_
  rintro e w2 ⟨sv', rfl, t2, m2, o2⟩
  have hbk2 := m2.bk HL.out.bk (fun e => HL.out.lp_far _ _ e rfl)
  have hr2 := HL.out.recs.tape HL.out.tape m2
  go_wp2_with fail
  go_ret
  refine ⟨sv', .slice A l.length c, l, rfl, ⟨hbk2, t2, hr2⟩, rfl, (HM.out.more fun k o e => .inl e).trans_ (m2.more fun k o e => e.elim (fun h => .inr (.inl h)) (fun h => .inr (.inr (.inl h)))) (fun _ _ _ h => h), fun k hk => ?_, fun k hk => .inl hk⟩
  rcases o2 k hk with h | h
  · exact .inl h
  · exact .inr (by simpa using h)

set_option maxHeartbeats 1000000 in
theorem lappend_bad {w : World} {lp : Nat} (A : Option Addr) (m c : Nat) (hm : m ≤ maxLen) (hb : m = 0 ∨ 4096 < m) :
    Calls Tryd.prog 15 #[.pointer (some ⟨lp, 0, none⟩), .slice A m c] w fun e w' => e = .returned (.int .i64 1) ∧ w = w' := by
  unfold maxLen at hm
  rcases hb with rfl | hb
  · go_enter Tryd.func15, Tryd.ntmps15
    go_wp2_with fail
    go_ret
    exact ⟨rfl, rfl⟩
  · have e0 : ((m : Int) == 0) = false := by simp; omega
    have e1 : decide (4096 < (m : Int)) = true := by simp; omega
    go_enter Tryd.func15, Tryd.ntmps15
    go_wp2_with fail
    go_ret
    exact ⟨rfl, rfl⟩

/-- What the tape's call leaves. -/
def AMid (w : World) (tp : Nat) (sv : Value) (f n : List UInt8 × Nat) (st : List (List UInt8 × Nat)) (wx : World) : Prop :=
  ∃ sv', TapeAt wx tp sv' f n st ∧ Moves (TapeX tp sv) w wx ∧ ∀ k, sv'.ownBlock = some k → sv.ownBlock = some k ∨ w.heap.size ≤ k

theorem TapeAt.lmoves {w w' : World} {lp tp : Nat} {sv rv : Value} {f n : List UInt8 × Nat} {st : List (List UInt8 × Nat)} {l : List Part} {cs : Array Value} (h : TapeAt w tp sv f n st) (hb : Bk w lp 60 cs) (hr : Recs w 0 rv l) (hm : Moves (fun k _ => k = lp ∨ some k = rv.ownBlock) w w') : TapeAt w' tp sv f n st := by
  refine h.moves hm ?_ ?_ ?_
  · rintro o (e | e)
    · obtain ⟨c, hc⟩ := h.bk_tape
      exact Bk.ne_ hb hc (by decide) e.symm
    · obtain ⟨c, hc⟩ := h.bk_tape
      obtain ⟨_, _, c', hc'⟩ := own_cells hr.own e.symm
      exact Bk.ne_ (g := tp) hc' hc (by decide) rfl
  · rintro k o hk (e | e)
    · subst e
      obtain ⟨c, hc⟩ := h.own_step hk
      exact Bk.ne_ (g := k) hb hc (by decide) rfl
    · obtain ⟨c, hc⟩ := h.own_step hk
      obtain ⟨_, _, c', hc'⟩ := own_cells hr.own e.symm
      exact Bk.ne_ (g := k) hc' hc (by decide) rfl
  · rintro k cur _ hk (e | e)
    · subst e
      exact Bk.ne_ (g := k) hb hk (by decide) rfl
    · obtain ⟨_, _, c', hc'⟩ := own_cells hr.own e.symm
      exact Bk.ne_ (g := k) hc' hk (by decide) rfl
/-- What the record put behind leaves. -/
def BMid (w : World) (lp tp syn : Nat) (rv : Value) (r : List UInt8) (l : List Part) (wx : World) : Prop :=
  ∃ rv' p, dat p = r ∧ Bk wx lp 60 #[.pointer (some ⟨tp, 0, none⟩), rv', .int .i64 (syn : Nat)] ∧ Recs wx 0 rv' (l ++ [p]) ∧ Moves (fun k _ => k = lp ∨ some k = rv.ownBlock) w wx ∧ (∀ k, rv'.ownBlock = some k → rv.ownBlock = some k ∨ w.heap.size ≤ k)

theorem bmid_mk {wc w2 w3 : World} {lp tp syn gg cap m c' : Nat} {rv : Value} {r : List UInt8} {l : List Part} {A' : Option Addr} (hr2 : Recs w2 0 rv l) (hbk2 : Bk w2 lp 60 #[.pointer (some ⟨tp, 0, none⟩), rv, .int .i64 (syn : Nat)]) (hb2 : Below wc.heap.size wc w2) (hrd : Rd 5 w2 (.slice A' m c') (bts r)) (hm : r.length = m)
    (hgrow : (w2.alloc (.cells #[.slice A' m c'] 22)).grownBy w3 rv.ownBlock) (hown3 : w3.ownsRow 0 22 1 (.slice (some ⟨gg, 0, none⟩) (l.length + 1) cap) (l.length + 1) (l.map slv ++ [.slice A' m c'])) (hat : rv.ownBlock = some gg ∨ gg = w2.heap.size + 1) :
    BMid wc lp tp syn rv r l (w3.setCell ⟨lp, 1, none⟩ (.slice (some ⟨gg, 0, none⟩) (l.length + 1) cap)) := by
  have hm1 : Moves (fun k _ => some k = rv.ownBlock) w2 w3 := (Moves.alloc _ w2 _).trans_ (Moves.grown hgrow (fun _ _ h => h)) (fun _ _ _ h => h)
  have hne : some lp ≠ rv.ownBlock := own_ne hr2.own hbk2 (by decide)
  have hbk3 := hm1.bk hbk2 hne
  have hm2 : Moves (fun k _ => k = lp ∨ some k = rv.ownBlock) w2 (w3.setCell ⟨lp, 1, none⟩ (.slice (some ⟨gg, 0, none⟩) (l.length + 1) cap)) := (hm1.more fun _ _ h => .inr h).trans_ (Moves.setCell _ _ _ (fun _ _ => .inl rfl)) (fun _ _ _ h => h)
  have hu8 : ∀ k cur, w2.heap[k]? = some (.cells cur 5 (0, 0)) → ¬ (k = lp ∨ some k = rv.ownBlock) := by
    rintro k cur hk (rfl | h)
    · exact Bk.ne_ hbk2 hk (by decide) rfl
    · obtain ⟨_, _, c, hc⟩ := own_cells hr2.own h.symm
      exact Bk.ne_ (g := k) hc hk (by decide) rfl
  refine ⟨.slice (some ⟨gg, 0, none⟩) (l.length + 1) cap, (A', c', r), rfl, by simpa using hbk3.set_ 1 (.slice (some ⟨gg, 0, none⟩) (l.length + 1) cap), ⟨?_, fun p hp => ?_⟩, (Moves.below _ hb2 (Nat.le_refl _)).trans_ hm2 (fun _ _ _ h => h), fun k hk => ?_⟩
  · rw [List.length_append, List.map_append]
    have := own_far hown3 (p := ⟨lp, 1, none⟩) (own_ne hown3 hbk3 (by decide)) (.slice (some ⟨gg, 0, none⟩) (l.length + 1) cap)
    simpa [slv, hm] using this
  · rcases List.mem_append.1 hp with hp | hp
    · exact (hr2.rd p hp).moves hm2 (fun k cur _ hk => hu8 k cur hk)
    · rw [List.mem_singleton] at hp
      subst hp
      have := hrd.moves hm2 (fun k cur _ hk => hu8 k cur hk)
      simpa [slv, hm] using this
  · simp only [Value.ownBlock, Option.some.injEq] at hk
    subst hk
    rcases hat with h | h
    · exact .inl h
    · exact .inr (by have := hb2.size; omega)

set_option maxRecDepth 100000 in
set_option maxHeartbeats 4000000 in
theorem lappend_any {w : World} {lp tp syn : Nat} {sv rv : Value} {f n : List UInt8 × Nat} {st : List (List UInt8 × Nat)} {l : List Part} (h : LogAt w lp tp sv rv f n st l syn) (hn : st.length ≤ 1000000) (hll : l.length ≤ 1000000) (hR : Roots w) (h0 : 0 < w.heap.size)
    (A : Option Addr) (r : List UInt8) (m c : Nat) (hm : r.length = m) (hgr : goodR r) (hg : Part.good w (A, c, r)) (hst : ∀ W, Moves (TapeX tp sv) w W → Sl W W.heap.size 1 A r.length (bts r)) (hf : n.1.length + (6 + r.length) ≤ 1048576) :
    Calls Tryd.prog 15 #[.pointer (some ⟨lp, 0, none⟩), .slice A m c] w (LDid w lp tp sv rv f (n.1 ++ frameF ckW r, n.2) (st ++ [(n.1 ++ frameF ckW r, n.2)]) (l.map dat ++ [r]) syn) := by
  obtain ⟨hr1, hr2⟩ := hgr
  obtain ⟨i0, hi, hz0, hz1, hz2⟩ := info_parts info_bytes
  have HS := Lib.hid hst
  rw [hm] at hr1 hr2
  have e0 : ((m : Int) == 0) = false := by simp; omega
  have e1 : decide (4096 < (m : Int)) = false := by simp; omega
  have c0 := h.bk.cell 0
  have hd0 : Below w.heap.size w w.drew := (Below.refl _ _).drew
  have HF := Lib.hid (fun (W : World) (hW : Below w.heap.size w W) => frame_any A r c W (hR.below hW h0) (Nat.lt_of_lt_of_le h0 hW.size) (by omega) (hg.below hW))
  have HC := Lib.hid (fun (W : World) (hW : Below w.heap.size w W) => clone_any A r c W (by omega) (hg.below hW).2.2)
  have HA := Lib.hid (fun (W : World) (hW : Below w.heap.size w W) (Af : Option Addr) (cf : Nat) (hs : Sl W W.heap.size 1 Af (6 + m) (bts (frameF ckW r))) => append_ok' tp sv f n st Af (frameF ckW r) (6 + m) cf W (by rw [frameF_len ckW_len, hm]) (h.tape.below hW (Nat.le_refl _)) (by rw [frameF_len ckW_len]; omega) (by rw [frameF_len ckW_len, hm]; exact hs) hn)
  rw [hm] at HF HC
  have HL := Lib.hid h
  have HM := Lib.hid hm
  clear h hm hg hR hf hst
  go_enter Tryd.func15, Tryd.ntmps15
  go_upto_region 3 with fail
  go_cut [5] (fun s5 wx => s5 = .int .i64 0 ∧ AMid w tp sv f (n.1 ++ frameF ckW r, n.2) (st ++ [(n.1 ++ frameF ckW r, n.2)]) wx)
  case first =>
    go_region_law (first
      | (go_simp; go_at_call 28; (with_reducible refine (HF.out _ hd0).mono ?_); rintro e w1 ⟨v1, rfl, ho1, hb1⟩; have hb1' := hd0.trans (hb1.mono hd0.size); obtain ⟨Af, cf, rfl, hcf1, hcf2, hsf⟩ := own_sl ho1; have c01 := (hb1'.cell (p := ⟨lp, 0, none⟩) HL.out.bk.lt).trans c0)
      | (go_simp; go_at_call 23; (with_reducible refine (HA.out _ hb1' Af cf hsf).mono ?_); rintro e w2 ⟨sv', rfl, t2, m2, o2⟩))
    all_goals
      go_wp2_with fail
      go_meet
      case rel => exact ⟨rfl, sv', t2, (Moves.below _ hb1' (Nat.le_refl _)).trans_ m2 (fun _ _ _ h => h), fun k hk => (o2 k hk).imp id (fun h => Nat.le_trans hb1'.size h)⟩
  case rest =>
    obtain ⟨rfl, svc, tc, mc, oc⟩ := hcut
    have hbkc := mc.bk HL.out.bk (fun e => HL.out.lp_far _ _ e rfl)
    have hrc := HL.out.recs.tape HL.out.tape mc
    have hsc := HS.out wc mc
    have hdc : Below wc.heap.size wc wc.drew := (Below.refl _ _).drew
    have HCc := Lib.hid (fun (W : World) (hW : Below wc.heap.size wc W) => clone_any A r c W (by rw [HM.out]; omega) ((hsc.below hW).more hW.size))
    rw [HM.out] at HCc
    have c1c : wc.cell? ⟨lp, 1, none⟩ = some rv := hbkc.cell 1
    have HBK := Lib.hid hbkc
    have HRC := Lib.hid hrc
    have HTC := Lib.hid tc
    have HMC := Lib.hid mc
    have HOC := Lib.hid oc
    clear hbkc hrc tc mc oc hsc
    go_upto_region 5 with fail
    go_cut [5] (fun s5 wx => s5 = .int .i64 0 ∧ BMid wc lp tp syn rv r l wx)
    case first =>
      go_region_law (first
        | (refine step_append_lies _ (by rfl) _ _ _ (by rfl) 0 22 i0 _ 1 24 Tryd.underlying24 hi hz0 hz1 hz2 rfl (by omega) rv l.length (l.map slv) (by rfl) (hr2.own.alloc _) ⟨w2.heap.size, 0, none⟩ 1 1 [.slice A' m c'] (by rfl) (by rfl) (World.news_of_block (cs := #[.slice A' m c']) (t := 22) (fr := (0, 0)) (heap_alloc_new w2 _)) (by simp [Value.oneCell']) (by omega) (by unfold maxLen; omega) (by omega) (by simp) (w2.heap.size + 1) (by simp) ?_; intro gg cap w3 hown3 hgrow hat hlt; have hbk3 := (hbk2.alloc (.cells #[.slice A' m c'] 22)).grown hgrow hne; have f13 := hbk3.frozen 1; have c13 := hbk3.cell 1)
        | (go_simp; go_at_call 29; (with_reducible refine (HCc.out _ hdc).mono ?_); rintro e w2 ⟨v2, rfl, hrd2, hb2, _⟩; have hb2' := hdc.trans (hb2.mono hdc.size); obtain ⟨A', c', rfl, hc21, hc22, hrd2'⟩ := rd_slice hrd2 HM.out; have hbk2 := HBK.out.below hb2' HBK.out.lt; have hr2 := HRC.out.below hb2' (Nat.le_refl _); have c12 : w2.cell? ⟨lp, 1, none⟩ = some rv := hbk2.cell 1; have c12a : (w2.alloc (.cells #[.slice A' m c'] 22)).cell? ⟨lp, 1, none⟩ = some rv := (hbk2.alloc _).cell 1; have hne : some lp ≠ rv.ownBlock := own_ne hr2.own hbk2 (by decide)))
      all_goals
        go_wp2_with fail
        go_meet
        case rel =>
          exact ⟨rfl, bmid_mk hr2 hbk2 hb2' hrd2' HM.out hgrow hown3 hat⟩
    case rest =>
      obtain ⟨rfl, rvx, p, hp, hbx, hrx, mx, ox⟩ := hcut
      have HX := Lib.hid (And.intro hp (And.intro hbx (And.intro hrx (And.intro mx ox))))
      clear hp hbx hrx mx ox
      go_wp2_with fail
      go_ret
      obtain ⟨hp, hbx, hrx, mx, ox⟩ := HX.out
      refine ⟨svc, rvx, l ++ [p], rfl, ⟨hbx, HTC.out.lmoves HBK.out HRC.out mx, hrx⟩, by rw [List.map_append, List.map_cons, List.map_nil, hp], ?_, HOC.out, fun k hk => (ox k hk).imp id (fun h => Nat.le_trans HMC.out.size h)⟩
      exact (HMC.out.more fun k o h => h.elim (fun h => .inr (.inl h)) (fun h => .inr (.inr (.inl h)))).trans_ (mx.more fun k o h => h.elim .inl (fun h => .inr (.inr (.inr h)))) (fun _ _ _ h => h)

/-- Bytes that lie ahead of all that is the log's stay. -/
theorem low_stays {B : Nat} {w : World} {tp n : Nat} {sv : Value} {A : Option Addr} {cs : List Value} (hk : Kept B tp sv) (hB : B ≤ w.heap.size) (hs : Sl w B 1 A n cs) : ∀ W, Moves (TapeX tp sv) w W → Sl W W.heap.size 1 A n cs := fun W hm =>
  ((hs.below (hm.to_below hB (by
    rintro k o (h | h)
    · rw [h]; exact hk.1
    · exact hk.2 k h.symm)))).more (Nat.le_trans hB hm.size)
theorem KeptL.tape {B lp tp : Nat} {sv rv : Value} (h : KeptL B lp tp sv rv) : Kept B tp sv := ⟨h.tp, h.sv⟩
/-- Bytes in a block of bytes stay. -/
theorem rd_stays {w : World} {tp : Nat} {sv : Value} {f n : List UInt8 × Nat} {st : List (List UInt8 × Nat)} (ht : TapeAt w tp sv f n st) {A : Option Addr} {c : Nat} {r : List UInt8} (h : Rd 5 w (.slice A r.length c) (bts r)) : ∀ W, Moves (TapeX tp sv) w W → Sl W W.heap.size 1 A r.length (bts r) := fun W hm => by
  obtain ⟨A', c', hv, _, _, hs⟩ := (h.moves hm (fun k cur _ hk hx => tape_tag ht hx hk (by decide) (by decide))).sl
  rw [bts_len] at hv hs
  cases hv
  exact hs
/-- Bytes in a new block stay. -/
theorem new_stays {w : World} {tp : Nat} {sv : Value} {f n : List UInt8 × Nat} {st : List (List UInt8 × Nat)} (ht : TapeAt w tp sv f n st) (o : Obj) {m : Nat} {A : Option Addr} {cs : List Value} (h : Sl (w.alloc o) (w.alloc o).heap.size 1 A m cs) (hA : ∀ b off, A = some ⟨b, off, none⟩ → b = w.heap.size) : ∀ W, Moves (TapeX tp sv) (w.alloc o) W → Sl W W.heap.size 1 A m cs := fun W hm =>
  ⟨h.1, fun hn => by
    obtain ⟨b, off, rfl, hb, hc⟩ := h.2 hn
    obtain rfl := hA b off rfl
    refine ⟨_, _, rfl, Nat.lt_of_lt_of_le hb hm.size, fun j u hu => hm.cell (hc j u hu) (fun o' _ hx => ?_)⟩
    rcases hx with e | e
    · obtain ⟨c, hc⟩ := ht.bk_tape
      have := hc.lt
      simp only at e
      omega
    · obtain ⟨c, hc⟩ := ht.own_step e.symm
      have := (Array.getElem?_eq_some_iff.1 hc).1
      simp only at this
      omega⟩
end Go.Proofs.YtpmmojjffjpmbaaDoor
