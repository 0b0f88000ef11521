/- What this text proves: the calls on a new tape, told block by block, so that bytes of another block may be written over; and the facts that the law TapeOwn carries through its loops. The conditions are how the tape lies in memory. -/
import Derived.Test.YtfgjpmbbfilemaaTapeAlive
import Derived.Test.YtfgjpmbbfilemaaTapeAlike
import Derived.Test.YtfgjpmbbfilemaaAppendSl
namespace Go.Proofs.Ytfgjpmbbfilemaa
open Go.RowKit
set_option linter.unusedVariables false
set_option linter.unusedSimpArgs false

theorem new_bk (w : World) : Calls Try.prog 7 #[] w fun e w' => e = .returned (.pointer (some ⟨w.heap.size, 0, none⟩)) ∧ Below w.heap.size w w' ∧
    Bk w' w.heap.size 50 #[.slice none 0 0, .int .i64 0, .slice none 0 0, .int .i64 0, .slice none 0 0] := by
  go_enter Try.func7, Try.ntmps7
  go_wp2
  go_ret
  exact ⟨rfl, (by (first | assumption | (repeat (first | exact Below.refl _ _ | assumption | apply Below.drew | apply below_drewN | (refine Below.setCell ?_ (by (try simp) <;> omega) _) | (refine Below.alloc ?_ (by (try simp) <;> omega) _))))), Bk.new w _ _⟩

/-- What the first Append leaves of a new tape at p. -/
def FirstPost (w : World) (p : Nat) (ys : List UInt8) (e : Ending) (w' : World) : Prop :=
  ∃ v sv, e = .returned (.int .i64 0) ∧ Bk w' p 50 #[v, .int .i64 0, .slice none 0 0, .int .i64 0, sv] ∧ w'.ownsRow 0 47 2 sv 1 [v, .int .i64 0] ∧ Rd 5 w' v (bts ys) ∧ Fr w.heap.size v ∧
    (∀ k, sv.ownBlock = some k → w.heap.size ≤ k) ∧ Moves (fun k _ => k = p) w w'

set_option maxRecDepth 100000 in
set_option maxHeartbeats 2000000 in
theorem append_first (p : Nat) (A' : Option Addr) (ys : List UInt8) (M c' : Nat) (w : World) (hp : Bk w p 50 #[.slice none 0 0, .int .i64 0, .slice none 0 0, .int .i64 0, .slice none 0 0]) (hM : ys.length = M) (hm : M ≤ 1000) (hs' : Sl w w.heap.size 1 A' M (bts ys)) :
    Calls Try.prog 9 #[.pointer (some ⟨p, 0, none⟩), .slice A' M c'] w (FirstPost w p ys) := by
  obtain ⟨i0, hi, hz0, hz1, hz2⟩ := info_parts info_u8
  have hD : ∀ (w1 : World) (A2 : Option Addr) (c2 : Nat), Below w.heap.size w w1 → Rd 5 w1 (.slice A2 M c2) (bts ys) → Fr w.heap.size (.slice A2 M c2) →
      Calls Try.prog 21 #[.pointer (some ⟨p, 0, none⟩), .agg #[.slice A2 M c2, .int .i64 0]] w1 (FirstPost w p ys) := by
    intro w1 A2 c2 hb hr hf
    have h1 := hp.below hb hp.lt
    refine (done_any p 0 _ _ (.slice none 0 0) (.slice A2 M c2) _ _ 0 [] w1 h1 (World.ownsRow_nil _ _ _ _) (by omega) A2 _ c2 rfl).mono ?_
    rintro e w' ⟨sv', rfl, q1, q2, q3, q4⟩
    have hm3 : Moves (fun k _ => k = p) w1 w' := q3.more fun k o h => h.elim id (fun h => by cases h)
    refine ⟨_, sv', rfl, q1, q2, hr.moves hm3 (fun k cur _ hk e => by subst e; exact Bk.ne_ h1 hk (by decide) rfl), hf, fun k hk => ?_, (Moves.below (fun k _ => k = p) hb (Nat.le_refl _)).trans_ hm3 (fun _ _ _ h => h)⟩
    rcases q4 k hk with h | h
    · cases h
    · exact Nat.le_trans hb.size h
  have HD := Lib.hid hD
  have HR := Lib.hid (fun (A2 : Option Addr) (c2 : Nat) (w1 : World) => clip_rd (w := w.drew) (w' := w1) (v' := .slice A2 (0 + M) c2) (n := 0) (m := M) (news := bts ys) rfl (Rd.nil 5 w.drew))
  have c0 := hp.cell 0
  have c1 := hp.cell 1
  have HS' := Lib.hid hs'
  have HM := Lib.hid hM
  have hpl := hp.lt
  clear hD hs' hM
  go_enter Try.func9, Try.ntmps9
  go_wp2_with fail
  go_region_law (first
    | (refine step_append_clip w.drew (by rfl) _ _ 22 (by rfl) 5 i0 _ 1 Try.underlying22 hi hz0 hz1 hz2 rfl none 0 0 [] (by rfl) ⟨rfl, fun h => absurd h (by omega)⟩ rfl (by unfold maxLen; omega) A' M c' (bts ys) (by rfl) HS'.out bts_one (by unfold maxLen; omega) (by omega) ?_; intro A2 c2 w2 hg q1 q2 q3 q4; have hbw : Below w.heap.size w w2 := ((Below.refl _ w).drew).grown hg (Nat.le_refl _) (fun k e => by cases e); have d1 : w2.cell? ⟨p, 1, none⟩ = some (.int .i64 0) := (hbw.cell (p := ⟨p, 1, none⟩) hpl).trans c1)
    | (go_simp; go_at_call 21; refine (HD.out w2 A2 c2 hbw (by have := HR.out A2 c2 w2 hg (by rw [bts_len]; exact HM.out) q3 q4 rfl; rw [Nat.zero_add] at this; exact this) (by
        rcases Nat.eq_zero_or_pos M with h0 | h0
        · subst h0; exact Fr.zero _ _ _
        · have := (Fr.of_own (q4 h0)); rw [Nat.zero_add] at this; exact this)).mono ?_; rintro e w3 ⟨v3, sv', rfl, r1, r2, r3, r4, r5, r6⟩))
  all_goals
    go_wp2_with fail
    go_ret
    exact ⟨v3, sv', rfl, r1, r2, r3, r4, r5, r6⟩

theorem own_empty (w : World) (e : TypeId) : (w.alloc (.cells #[] e)).ownsRow w.heap.size e 1 (.slice (some ⟨w.heap.size, 0, none⟩) 0 0) 0 [] :=
  ⟨rfl, .inr ⟨w.heap.size, 0, #[], rfl, Nat.le_refl _, heap_alloc_new w _, Nat.le_refl _, by simp [maxLen], rfl, rfl⟩⟩

/-- The slice at A is a row of bytes in block g, from off on. -/
def ByteRow (w : World) (A : Option Addr) (L g off : Nat) : Prop := 0 < L → A = some ⟨g, off, none⟩ ∧ ∃ cur, Bk w g 5 cur ∧ ∀ j, j < L → ∃ n : Int, cur[off + j]? = some (.int .u8 n)
theorem ByteRow.moves {w w' : World} {A : Option Addr} {L g off : Nat} {X : Nat → Obj → Prop} (h : ByteRow w A L g off) (hm : Moves X w w') (hx : ∀ o, ¬ X g o) : ByteRow w' A L g off := by
  intro hL
  obtain ⟨h1, cur, h2, h3⟩ := h hL
  exact ⟨h1, cur, hm.bk h2 (hx _), h3⟩
theorem ByteRow.at_ {w : World} {A : Option Addr} {L g off k : Nat} (h : ByteRow w A L g off) (hk : k < L) : ∃ n : Int, A = some ⟨g, off, none⟩ ∧ w.cell? ⟨g, off + k, none⟩ = some (.int .u8 n) ∧ w.frozen? ⟨g, off + k, none⟩ = false := by
  obtain ⟨h1, cur, h2, h3⟩ := h (by omega)
  obtain ⟨n, hn⟩ := h3 k hk
  exact ⟨n, h1, (h2.cell _).trans hn, h2.frozen _⟩
theorem ByteRow.set_ {w : World} {A : Option Addr} {L g off k : Nat} (h : ByteRow w A L g off) (n : Int) : ByteRow (w.setCell ⟨g, off + k, none⟩ (.int .u8 n)) A L g off := by
  intro hL
  obtain ⟨h1, cur, h2, h3⟩ := h hL
  refine ⟨h1, _, h2.set_ (off + k) _, fun j hj => ?_⟩
  obtain ⟨m, hm⟩ := h3 j hj
  by_cases e : off + k = off + j
  · rw [e]
    exact ⟨n, by have := (Array.getElem?_eq_some_iff.1 hm).1; simp [this]⟩
  · exact ⟨m, by rw [Array.getElem?_setIfInBounds_ne e]; exact hm⟩
theorem byteRow_own {w : World} {base L : Nat} {v : Value} {ys : List UInt8} (h : w.ownsRow base 5 1 v L (bts ys)) (hb : base < w.heap.size) :
    ∃ A cap g, v = .slice A L cap ∧ L ≤ cap ∧ cap ≤ maxLen ∧ base ≤ g ∧ g < w.heap.size ∧ Sl w w.heap.size 1 A L (bts ys) ∧ ByteRow w A L g 0 := by
  obtain ⟨A, cap, hv, h1, h2, h3⟩ := own_sl h
  rcases h.2 with ⟨hv', rfl⟩ | ⟨g, cap', cur, hv', hg, hh, hn, hc, hs, ht⟩
  · exact ⟨A, cap, base, hv, h1, h2, Nat.le_refl _, hb, h3, fun h => absurd h (by omega)⟩
  · rw [hv] at hv'
    cases hv'
    refine ⟨_, cap, g, hv, h1, h2, hg, (Array.getElem?_eq_some_iff.1 hh).1, h3, fun _ => ⟨rfl, cur, hh, fun j hj => ?_⟩⟩
    have hlen : ys.length = L := by have := h.1; rw [bts_len] at this; omega
    have hx := bts_at (xs := ys) (k := j) (List.getElem?_eq_getElem (by omega))
    rw [← ht, List.getElem?_take] at hx
    split at hx
    · exact ⟨_, by rw [Nat.zero_add]; simpa using hx⟩
    · cases hx
theorem byteRow_rd {w : World} {N : Nat} {v : Value} {ys : List UInt8} (h : Rd 5 w v (bts ys)) (hf : Fr N v) :
    ∃ A cap g off, v = .slice A ys.length cap ∧ ys.length ≤ cap ∧ cap ≤ maxLen ∧ N ≤ g ∧ ByteRow w A ys.length g off := by
  obtain ⟨A, c, hv, h1, h2, h3⟩ := h
  rw [bts_len] at hv h1 h3
  rcases Nat.eq_zero_or_pos ys.length with h0 | h0
  · exact ⟨A, c, N, 0, hv, h1, h2, Nat.le_refl _, fun h => absurd h (by omega)⟩
  · obtain ⟨b, off, cur, hA, hb, hc⟩ := h3 h0
    refine ⟨A, c, b, off, hv, h1, h2, hf b off _ c (by rw [hv, hA]) h0, fun _ => ⟨hA, cur, hb, fun j hj => ?_⟩⟩
    exact ⟨_, hc j _ (bts_at (List.getElem?_eq_getElem hj))⟩

theorem tape_first {w : World} {p : Nat} {v sv : Value} {ys : List UInt8} (hb : Bk w p 50 #[v, .int .i64 0, .slice none 0 0, .int .i64 0, sv]) (ho : w.ownsRow 0 47 2 sv 1 [v, .int .i64 0]) (hr : Rd 5 w v (bts ys)) (hl : ys.length ≤ 1048576) :
    TapeAt w p sv ([], 0) (ys, 0) [(ys, 0)] := by
  refine ⟨⟨v, _, hb, hr, Rd.nil _ _⟩, ⟨_, ho, rfl, fun i s hs => ?_⟩, ⟨by simp, by simp⟩, ⟨hl, by simp⟩, fun s hs => ?_⟩
  · match i with
    | 0 =>
      simp at hs
      subst hs
      exact ⟨v, rfl, rfl, hr⟩
    | i + 1 => simp at hs
  · simp at hs
    subst hs
    exact ⟨hl, by simp⟩
theorem tape_cut {w : World} {p : Nat} {v : Value} {ys : List UInt8} (hb : Bk w p 50 #[v, .int .i64 (ys.length : Int), v, .int .i64 (ys.length : Int), .slice none 0 0]) (hr : Rd 5 w v (bts ys)) (hl : ys.length ≤ 1048576) :
    TapeAt w p (.slice none 0 0) (ys, ys.length) (ys, ys.length) [] :=
  ⟨⟨v, v, hb, hr, hr⟩, ⟨[], World.ownsRow_nil _ _ _ _, rfl, fun i s h => by simp at h⟩, ⟨hl, Nat.le_refl _⟩, ⟨hl, Nat.le_refl _⟩, by simp⟩
theorem cut_whole (ys : List UInt8) : cutStep ([], 0) [(ys, 0)] 1 (ys.length : Int) = (ys, ys.length) := by
  have h1 : pickI 1 (([(ys, 0)] : List (List UInt8 × Nat)).length + 1) = 1 := by show pickI 1 2 = 1; decide
  have h2 : pickI (ys.length : Int) ((ys.length : Int) - 0 + 1) = ys.length := by
    unfold pickI
    rw [if_neg (by omega)]
    exact Int.emod_eq_of_lt (by omega) (by omega)
  unfold cutStep
  simp only [h1]
  simp only [List.getD, Int.toNat_one, List.getElem?_cons_succ, List.getElem?_cons_zero, Option.getD_some]
  rw [show ((0 : Nat) : Int) = 0 from rfl, h2]
  simp
/-- A tape stays what another one's method leaves. -/
theorem other_stays {w w' : World} {p p' : Nat} {sv svx : Value} {f n f' n' : List UInt8 × Nat} {st st' : List (List UInt8 × Nat)} (t : TapeAt w p sv f n st) (x : TapeAt w p' svx f' n' st') (hm : Moves (TapeX p' svx) w w') (hp : p ≠ p') (hs : ∀ k, sv.ownBlock = some k → svx.ownBlock ≠ some k) : TapeAt w' p sv f n st := by
  obtain ⟨nb, fb, b1, _, _⟩ := t.bk
  obtain ⟨cs, o1, _⟩ := t.own
  obtain ⟨nb', fb', b2, _, _⟩ := x.bk
  obtain ⟨xs, o2, _⟩ := x.own
  refine t.moves hm (fun o h => ?_) (fun k o hk h => ?_) (fun k cur _ hc h => ?_)
  · rcases h with h | h
    · exact hp h
    · exact own_ne o2 b1 (by decide) h
  · rcases h with h | h
    · subst h; exact own_ne o1 b2 (by decide) hk.symm
    · exact hs k hk h.symm
  · rcases h with h | h
    · subst h; exact Bk.ne_ b2 hc (by decide) rfl
    · obtain ⟨_, _, cur', hc'⟩ := own_cells o2 h.symm
      exact Bk.ne_ (g := k) hc' hc (by decide) rfl
/-- What the law knows of both tapes while it writes over block g. -/
structure OwnInv (w : World) (g p p' : Nat) (sv : Value) (ys : List UInt8) : Prop where
  t : ∃ v, Bk w p 50 #[v, .int .i64 0, .slice none 0 0, .int .i64 0, sv] ∧ w.ownsRow 0 47 2 sv 1 [v, .int .i64 0] ∧ Rd 5 w v (bts ys) ∧ Fr (g + 1) v
  x : ∃ v, Bk w p' 50 #[v, .int .i64 (ys.length : Int), v, .int .i64 (ys.length : Int), .slice none 0 0] ∧ Rd 5 w v (bts ys) ∧ Fr (g + 1) v
  sv : ∀ k, sv.ownBlock = some k → g < k
  p : p < g
  p' : g < p'
theorem OwnInv.moves {w w' : World} {g p p' : Nat} {sv : Value} {ys : List UInt8} (h : OwnInv w g p p' sv ys) (hm : Moves (fun k _ => k = g) w w') : OwnInv w' g p p' sv ys := by
  obtain ⟨⟨v, a1, a2, a3, a4⟩, ⟨u, b1, b2, b3⟩, c, d, e⟩ := h
  have off : ∀ {v : Value}, Fr (g + 1) v → ∀ b off n c, v = .slice (some ⟨b, off, none⟩) n c → 0 < n → ∀ o : Obj, ¬ b = g := fun hf b off n c hv hn _ he => by have := hf b off n c hv hn; omega
  refine ⟨⟨v, hm.bk a1 (by omega), ?_, a3.off hm (off a4), a4⟩, ⟨u, hm.bk b1 (by omega), b2.off hm (off b3), b3⟩, c, d, e⟩
  refine ⟨a2.1, ?_⟩
  rcases a2.2 with hn | ⟨q, cap, cur, hv, hb, hg, rest⟩
  · exact .inl hn
  · exact .inr ⟨q, cap, cur, hv, hb, hm.block q _ hg (by have := c q (by rw [hv]; rfl); omega), rest⟩
theorem OwnInv.tape {w : World} {g p p' : Nat} {sv : Value} {ys : List UInt8} (h : OwnInv w g p p' sv ys) (hl : ys.length ≤ 1000) : TapeAt w p sv ([], 0) (ys, 0) [(ys, 0)] := by
  obtain ⟨v, a1, a2, a3, a4⟩ := h.t
  exact tape_first a1 a2 a3 (by omega)
theorem OwnInv.other {w : World} {g p p' : Nat} {sv : Value} {ys : List UInt8} (h : OwnInv w g p p' sv ys) (hl : ys.length ≤ 1000) : TapeAt w p' (.slice none 0 0) (ys, ys.length) (ys, ys.length) [] := by
  obtain ⟨v, b1, b2, b3⟩ := h.x
  exact tape_cut b1 b2 (by omega)
/-- At the cut. -/
theorem OwnInv.start {w3 w4 w5 : World} {g p p' : Nat} {v sv u : Value} {m : Value} {ys : List UInt8} (h1 : Bk w4 p 50 #[v, .int .i64 0, .slice none 0 0, .int .i64 0, sv]) (h2 : w4.ownsRow 0 47 2 sv 1 [v, .int .i64 0]) (h3 : Rd 5 w4 v (bts ys)) (h4 : Fr w3.heap.size v)
    (h5 : ∀ k, sv.ownBlock = some k → w3.heap.size ≤ k) (hb : Below w4.heap.size w4 w5) (hx : TapeAt w5 p' (.slice none 0 0) (ys, ys.length) (ys, ys.length) []) (hu : Bk w5 p' 50 #[u, m, u, m, .slice none 0 0]) (hf : Fr w4.heap.size u)
    (hg : g < w3.heap.size) (h34 : w3.heap.size ≤ w4.heap.size) (hp : p < g) (hp' : w4.heap.size ≤ p') : OwnInv w5 g p p' sv ys := by
  refine ⟨⟨v, h1.below hb h1.lt, ?_, h3.below hb (Nat.le_refl _), h4.less hg⟩, ⟨u, ?_⟩, fun k hk => by have := h5 k hk; omega, hp, by omega⟩
  · refine ⟨h2.1, ?_⟩
    rcases h2.2 with hn | ⟨q, cap, cur, hv, hb', hg', rest⟩
    · exact .inl hn
    · exact .inr ⟨q, cap, cur, hv, hb', (hb.block q (Array.getElem?_eq_some_iff.1 hg').1).trans hg', rest⟩
  · obtain ⟨⟨nb, fb, k1, k2, k3⟩, _⟩ := hx
    have e : (some (Obj.cells #[u, m, u, m, .slice none 0 0] 50 (0, 0))) = some (Obj.cells #[nb, .int .i64 (ys.length : Int), fb, .int .i64 (ys.length : Int), .slice none 0 0] 50 (0, 0)) := hu.symm.trans k1
    injection e with e
    injection e with e
    injection e with e
    simp only [List.cons.injEq, and_true] at e
    obtain ⟨rfl, rfl, rfl, _⟩ := e
    exact ⟨hu, k2, hf.less (by omega)⟩
end Go.Proofs.Ytfgjpmbbfilemaa
