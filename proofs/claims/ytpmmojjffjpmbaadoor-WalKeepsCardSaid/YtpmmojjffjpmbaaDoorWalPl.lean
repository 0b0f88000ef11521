/- What this text proves: facts on a log, and on the list of records that a law keeps beside it. The conditions are how the values lie in memory. -/
import Derived.Test.YtpmmojjffjpmbaaDoorWalScans
import Derived.Test.YtpmmojjffjpmbaaDoorOpenOp
namespace Go.Proofs.YtpmmojjffjpmbaaDoor
open Go.RowKit
set_option linter.unusedVariables false
set_option linter.unusedSimpArgs false

/-- The law's own list: its row at B or behind; its records in blocks of bytes, or ahead of n₀. -/
structure AllAt (w : World) (B n₀ : Nat) (v : Value) (la : List Part) : Prop where
  own : w.ownsRow B 22 1 v la.length (la.map slv)
  rd : ∀ p ∈ la, Rd 5 w (slv p) (bts p.2.2) ∨ PGood w n₀ p
  ok : ∀ p ∈ la, goodR (dat p)
section
variable {w w' : World} {B n₀ lp tp syn : Nat} {v sv rv : Value} {la l : List Part} {f n : List UInt8 × Nat} {st : List (List UInt8 × Nat)}
theorem AllAt.moves {X : Nat → Obj → Prop} (h : AllAt w B n₀ v la) (hm : Moves X w w') (h0 : n₀ ≤ w.heap.size) (h1 : ∀ k cur, v.ownBlock = some k → w.heap[k]? = some (.cells cur 22 (0, 0)) → ¬ X k (.cells cur 22 (0, 0)))
    (h2 : ∀ k cur, w.heap[k]? = some (.cells cur 5 (0, 0)) → ¬ X k (.cells cur 5 (0, 0))) (h3 : ∀ k o, X k o → n₀ ≤ k) : AllAt w' B n₀ v la := by
  refine ⟨⟨h.own.1, ?_⟩, fun p hp => ?_, h.ok⟩
  · rcases h.own.2 with hn | ⟨g, cap, cur, hv, hb, hg, rest⟩
    · exact .inl hn
    · exact .inr ⟨g, cap, cur, hv, hb, hm.block g _ hg (h1 g cur (by rw [hv]; rfl) hg), rest⟩
  · rcases h.rd p hp with h | h
    · exact .inl (h.moves hm (fun k cur _ hk => h2 k cur hk))
    · exact .inr ⟨h.1, h.2.1, h.2.2.below (hm.to_below h0 h3)⟩
theorem AllAt.below (h : AllAt w B n₀ v la) (hb : Below w.heap.size w w') (h0 : n₀ ≤ w.heap.size) : AllAt w' B n₀ v la := by
  refine h.moves (X := fun k _ => w.heap.size ≤ k) ⟨hb.os, hb.tape, hb.output, hb.size, fun k o hk hx => ?_⟩ h0 (fun k cur hk hc hx => ?_) (fun k cur hc hx => ?_) (fun k o hx => Nat.le_trans h0 hx)
  · exact (hb.block k (by omega)).trans hk
  · have := (Array.getElem?_eq_some_iff.1 hc).1
    omega
  · have := (Array.getElem?_eq_some_iff.1 hc).1
    omega
theorem AllAt.good (h : AllAt w B n₀ v la) (h0 : n₀ ≤ w.heap.size) : ∀ p ∈ la, p.good w := fun p hp => by
  rcases h.rd p hp with hr | hr
  · obtain ⟨A', c', hv, g1, g2, g3⟩ := hr.sl
    rw [bts_len] at hv g1 g3
    obtain ⟨pa, pc, pl⟩ := p
    simp only [slv] at hv
    cases hv
    exact ⟨g1, g2, g3⟩
  · exact ⟨hr.1, hr.2.1, hr.2.2.more h0⟩
theorem AllAt.slice (h : AllAt w B n₀ v la) {m : Nat} (hm : la.length = m) : ∃ A c, v = .slice A m c ∧ m ≤ c ∧ c ≤ maxLen ∧ Sl w w.heap.size 1 A m (la.map slv) := by
  obtain ⟨A, c, rfl, h1, h2, h3⟩ := own_sl h.own
  subst hm
  exact ⟨A, c, rfl, h1, h2, h3⟩
/-- The log stays where the law's own row turns. -/
theorem LogAt.vmoves (h : LogAt w lp tp sv rv f n st l syn) (hv : w.ownsRow B 22 1 v la.length (la.map slv)) (hsep : ∀ x, v.ownBlock = some x → rv.ownBlock ≠ some x) (hm : Moves (fun k _ => some k = v.ownBlock) w w') : LogAt w' lp tp sv rv f n st l syn := by
  have hc : ∀ k, some k = v.ownBlock → ∃ cs, w.heap[k]? = some (.cells cs 22 (0, 0)) := fun k hk => (own_cells hv hk.symm).2.2
  have ht : ∀ k t c, t ≠ 22 → w.heap[k]? = some (.cells c t (0, 0)) → some k ≠ v.ownBlock := fun k t c hne hk e => by
    obtain ⟨cs, hcs⟩ := hc k e
    exact Bk.ne_ (g := k) hk hcs hne rfl
  refine ⟨hm.bk h.bk (ht _ _ _ (by decide) h.bk), h.tape.moves hm ?_ ?_ (fun k cur _ hk => ht _ _ _ (by decide) hk), h.recs.moves hm (fun k cur hk _ e => hsep k e.symm hk) (fun k cur hk => ht _ _ _ (by decide) hk)⟩
  · intro o
    obtain ⟨c, hc⟩ := h.tape.bk_tape
    exact ht _ _ _ (by decide) hc
  · intro k o hk
    obtain ⟨c, hc⟩ := h.tape.own_step hk
    exact ht _ _ _ (by decide) hc
/-- The law's own list stays where the log turns. -/
theorem AllAt.lmoves (h : AllAt w B n₀ v la) (hl : LogAt w lp tp sv rv f n st l syn) (hk : KeptL B lp tp sv rv) (hB : n₀ ≤ B) (h0 : n₀ ≤ w.heap.size) (hsep : ∀ x, v.ownBlock = some x → rv.ownBlock ≠ some x) (hm : Moves (LogX lp tp sv rv) w w') : AllAt w' B n₀ v la := by
  have htag : ∀ k t c, t ≠ 22 → t ≠ 60 → t ≠ 58 → t ≠ 55 → w.heap[k]? = some (.cells c t (0, 0)) → ¬ LogX lp tp sv rv k (.cells c t (0, 0)) := by
    rintro k t c h1 h2 h3 h4 hk (e | e | e | e)
    · rw [e] at hk; exact Bk.ne_ (g := lp) hk hl.bk h2 rfl
    · obtain ⟨c', hc'⟩ := hl.tape.bk_tape
      rw [e] at hk; exact Bk.ne_ (g := tp) hk hc' h3 rfl
    · obtain ⟨c', hc'⟩ := hl.tape.own_step e.symm
      exact Bk.ne_ (g := k) hk hc' h4 rfl
    · obtain ⟨_, _, c', hc'⟩ := own_cells hl.recs.own e.symm
      exact Bk.ne_ (g := k) hk hc' h1 rfl
  refine h.moves hm h0 ?_ (fun k cur hk => htag _ _ _ (by decide) (by decide) (by decide) (by decide) hk) ?_
  · rintro k cur hv hk (e | e | e | e)
    · rw [e] at hk; exact Bk.ne_ (g := lp) hk hl.bk (by decide) rfl
    · obtain ⟨c', hc'⟩ := hl.tape.bk_tape
      rw [e] at hk; exact Bk.ne_ (g := tp) hk hc' (by decide) rfl
    · obtain ⟨c', hc'⟩ := hl.tape.own_step e.symm
      exact Bk.ne_ (g := k) hk hc' (by decide) rfl
    · exact hsep k hv e.symm
  · rintro k o (e | e | e | e)
    · rw [e]; exact Nat.le_trans hB hk.lp
    · rw [e]; exact Nat.le_trans hB hk.tp
    · exact Nat.le_trans hB (hk.sv k e.symm)
    · exact Nat.le_trans hB (hk.rv k e.symm)
/-- One record more in the law's own list. -/
theorem AllAt.snoc {p : Part} {v' : Value} (h : AllAt w B n₀ v la) (hp : PGood w n₀ p) (hg : goodR (dat p)) (h0 : n₀ ≤ w.heap.size) (hB : n₀ ≤ B) (hgr : (w.alloc (.cells #[slv p] 22)).grownBy w' v.ownBlock) (ho : w'.ownsRow B 22 1 v' (la.length + 1) (la.map slv ++ [slv p])) :
    AllAt w' B n₀ v' (la ++ [p]) ∧ Moves (fun k _ => some k = v.ownBlock) w w' := by
  have hm : Moves (fun k _ => some k = v.ownBlock) w w' := (Moves.alloc _ w _).trans_ (Moves.grown hgr (fun _ _ h => h)) (fun _ _ _ h => h)
  have hX : ∀ k, some k = v.ownBlock → B ≤ k ∧ ∃ cs, w.heap[k]? = some (.cells cs 22 (0, 0)) := fun k hk => ⟨(own_cells h.own hk.symm).1, (own_cells h.own hk.symm).2.2⟩
  refine ⟨⟨?_, fun q hq => ?_, fun q hq => ?_⟩, hm⟩
  · rw [List.length_append, List.map_append]
    exact ho
  · rcases List.mem_append.1 hq with hq | hq
    · rcases h.rd q hq with hr | hr
      · exact .inl (hr.moves hm (fun k cur _ hk e => by obtain ⟨_, cs, hcs⟩ := hX k e; exact Bk.ne_ (g := k) hk hcs (by decide) rfl))
      · exact .inr ⟨hr.1, hr.2.1, hr.2.2.below (hm.to_below h0 (fun k o e => Nat.le_trans hB (hX k e).1))⟩
    · rw [List.mem_singleton] at hq
      subst hq
      exact .inr ⟨hp.1, hp.2.1, hp.2.2.below (hm.to_below h0 (fun k o e => Nat.le_trans hB (hX k e).1))⟩
  · rcases List.mem_append.1 hq with hq | hq
    · exact h.ok q hq
    · rw [List.mem_singleton] at hq
      subst hq
      exact hg
theorem cutStep_len {f : List UInt8 × Nat} {st : List (List UInt8 × Nat)} {M : Nat} (h : ∀ s ∈ f :: st, s.1.length ≤ M) (a t : Int) : (cutStep f st a t).1.length ≤ M := by
  have hb := pickI_bd a (st.length + 1) (by omega)
  have hl : (pickI a (st.length + 1)).toNat < (f :: st).length := by simp; omega
  have hm : ((f :: st).getD (pickI a (st.length + 1)).toNat ([], 0)).1.length ≤ M := by
    rw [List.getD_eq_getElem?_getD, List.getElem?_eq_getElem hl, Option.getD_some]
    exact h _ (List.getElem_mem hl)
  unfold cutStep
  simp only [List.length_take]
  exact Nat.le_trans (Nat.min_le_right _ _) hm
end

/-- What the law's loop holds behind k operations. -/
structure PI (w w0 : World) (B k : Nat) (t l v s : Value) (wr : World) : Prop where
  ex : ∃ (tp lp syn : Nat) (sv rv : Value) (f : List UInt8 × Nat) (sf : Nat) (st : List (List UInt8 × Nat)) (lr la : List Part),
    t = .pointer (some ⟨tp, 0, none⟩) ∧ l = .pointer (some ⟨lp, 0, none⟩) ∧ s = .int .i64 (syn : Nat) ∧
    LogAt wr lp tp sv rv f (framesF ckW (la.map dat), sf) st lr syn ∧ lr.map dat = la.map dat ∧ KeptL B lp tp sv rv ∧
    AllAt wr B w.heap.size v la ∧ (∀ x, v.ownBlock = some x → rv.ownBlock ≠ some x) ∧
    st.length ≤ 2 * k + 1 ∧ (∀ s ∈ f :: st, s.1.length ≤ 5006 * k) ∧ (framesF ckW (la.map dat)).length ≤ 5006 * k
  bel : Below B w0 wr
  wB : w.heap.size ≤ B
  B0 : B ≤ w0.heap.size
theorem PI.next {w w0 wr wx : World} {B k k' : Nat} {t l v s : Value} (h : PI w w0 B k t l v s wr) (hk : k ≤ k') (hb : Below B wr wx) (hb2 : Below wr.heap.size wr wx) : PI w w0 B k' t l v s wx := by
  obtain ⟨tp, lp, syn, sv, rv, f, sf, st, lr, la, h1, h2, h3, h4, h5, h6, h7, h8, h9, h10, h11⟩ := h.ex
  refine ⟨⟨tp, lp, syn, sv, rv, f, sf, st, lr, la, h1, h2, h3, h4.below hb2 (Nat.le_refl _), h5, h6, h7.below hb2 (Nat.le_trans h.wB (Nat.le_trans h.B0 h.bel.size)), h8, by omega, fun s hs => Nat.le_trans (h10 s hs) (by omega), by omega⟩, h.bel.trans hb, h.wB, h.B0⟩

/-- The law's own copy of an operation stays. -/
def KO (w w' : World) : Prop := ∀ g c, Bk w g 43 c → Bk w' g 43 c
/-- The law's tape behind what others did to it. -/
structure TI (w : World) (B k tp : Nat) (wx : World) : Prop where
  ex : ∃ (sv : Value) (f n : List UInt8 × Nat) (st : List (List UInt8 × Nat)), TapeAt wx tp sv f n st ∧ Kept B tp sv ∧ n.1.length ≤ 5006 * k + 5000 ∧ st.length ≤ 2 * k + 2 ∧ ∀ s ∈ f :: st, s.1.length ≤ 5006 * k + 5000
  bel : Below B w wx
  size : B ≤ wx.heap.size
section
variable {w wo : World} {B k tp : Nat} {sv : Value} {f n : List UInt8 × Nat} {st : List (List UInt8 × Nat)}
theorem ti_did {e : Ending} {w' : World} {s : List UInt8 × Nat} {r : Int} (hk : Kept B tp sv) (hB : B ≤ wo.heap.size) (hb : Below B w wo) (hst : st.length ≤ 2 * k + 1) (hfs : ∀ s ∈ f :: st, s.1.length ≤ 5006 * k) (hs : s.1.length ≤ 5006 * k + 5000) (ht : TapeAt wo tp sv f n st) (h : Did wo tp sv f s (st ++ [s]) r e w') : e = .returned (.int .i64 r) ∧ TI w B k tp w' ∧ KO wo w' := by
  have hko : KO wo w' := by
    obtain ⟨_, _, _, hm, _⟩ := h
    exact fun g c hc => hm.bk hc (fun hx => tape_tag ht hx hc (by decide) (by decide))
  obtain ⟨sv', rfl, h1, h2, h3⟩ := did_kept hk hB h
  refine ⟨rfl, ⟨⟨sv', f, s, st ++ [s], h1, h2, hs, by simp; omega, fun q hq => ?_⟩, hb.trans h3, Nat.le_trans hB h3.size⟩, hko⟩
  rcases List.mem_cons.1 hq with rfl | hq
  · have := hfs q (by simp); omega
  · rcases List.mem_append.1 hq with hq | hq
    · have := hfs q (by simp [hq]); omega
    · rw [List.mem_singleton] at hq
      subst hq
      exact hs
theorem ti_trim (h : TapeAt wo tp sv f n st) (hk : Kept B tp sv) (hB : B ≤ wo.heap.size) (hb : Below B w wo) (hst : st.length ≤ 2 * k + 1) (hfs : ∀ s ∈ f :: st, s.1.length ≤ 5006 * k) (hn : n.1.length ≤ 5006 * k) (hk40 : k ≤ 40) (m : Int) :
    Calls Tryd.prog 20 #[.pointer (some ⟨tp, 0, none⟩), .int .i64 m] wo fun e w' => ∃ r, e = .returned (.int .i64 r) ∧ TI w B k tp w' ∧ KO wo w' := by
  by_cases hbad : m < 0 ∨ (n.1.length : Int) < m
  · refine (trim_bad tp sv f n st m wo h hbad).mono ?_
    rintro e w' ⟨rfl, rfl⟩
    exact ⟨_, rfl, ⟨⟨sv, f, n, st, h, hk, by omega, by omega, fun s hs => by have := hfs s hs; omega⟩, hb, hB⟩, fun _ _ h => h⟩
  · obtain ⟨kn, rfl⟩ : ∃ kn : Nat, m = kn := ⟨m.toNat, by omega⟩
    refine (trim_ok tp sv f n st kn wo h (by omega) (by omega)).mono fun e w' hd => ?_
    obtain ⟨rfl, ht⟩ := ti_did hk hB hb hst hfs (by simp; omega) h hd
    exact ⟨_, rfl, ht⟩
theorem ti_append (h : TapeAt wo tp sv f n st) (hk : Kept B tp sv) (hB : B ≤ wo.heap.size) (hb : Below B w wo) (hst : st.length ≤ 2 * k + 1) (hfs : ∀ s ∈ f :: st, s.1.length ≤ 5006 * k) (hn : n.1.length ≤ 5006 * k) (hk40 : k ≤ 40) (A : Option Addr) (ys : List UInt8) (m c : Nat) (hm : ys.length = m) (hm5 : m ≤ 5000) (hs : Sl wo wo.heap.size 1 A ys.length (bts ys)) :
    Calls Tryd.prog 23 #[.pointer (some ⟨tp, 0, none⟩), .slice A m c] wo fun e w' => ∃ r, e = .returned (.int .i64 r) ∧ TI w B k tp w' ∧ KO wo w' := by
  refine (append_ok' tp sv f n st A ys m c wo hm h (by omega) hs (by omega)).mono fun e w' hd => ?_
  obtain ⟨rfl, ht⟩ := ti_did hk hB hb hst hfs (by simp; omega) h hd
  exact ⟨_, rfl, ht⟩
theorem ti_cut (h : TapeAt wo tp sv f n st) (hB : B ≤ wo.heap.size) (hb : Below B w wo) (hst : st.length ≤ 2 * k + 1) (hfs : ∀ s ∈ f :: st, s.1.length ≤ 5006 * k) (hk40 : k ≤ 40) (a t : Int) (ha : -9223372036854775808 ≤ a ∧ a ≤ 9223372036854775807) (ht : -9223372036854775808 ≤ t ∧ t ≤ 9223372036854775807) :
    Calls Tryd.prog 21 #[.pointer (some ⟨tp, 0, none⟩), .int .i64 a, .int .i64 t] wo fun e w' => ∃ tp', e = .returned (.pointer (some ⟨tp', 0, none⟩)) ∧ TI w B k tp' w' ∧ KO wo w' := by
  refine (cut_any tp sv f n st a t wo h (by omega) ha ht).mono fun e w' hd => ?_
  obtain ⟨tp', rfl, h1, h2, h3, _⟩ := hd
  have hl := cutStep_len hfs a t
  refine ⟨tp', rfl, ⟨⟨_, _, _, _, h1, ⟨Nat.le_trans hB h3, fun k h => by cases h⟩, by omega, by simp, fun s hs => ?_⟩, hb.trans (h2.mono hB), Nat.le_trans hB h2.size⟩, fun g c hc => hc.below h2 hc.lt⟩
  rw [List.mem_singleton] at hs
  subst hs
  omega
theorem OpPost.moves {e : Ending} {w' : World} (h : OpPost wo tp sv f n st e w') : Moves (TapeX tp sv) wo w' := by
  obtain ⟨lp, sv', rv, l, rfl, h1, h2, h3, h4, h5, h6⟩ := h
  exact h4
end
end Go.Proofs.YtpmmojjffjpmbaaDoor
