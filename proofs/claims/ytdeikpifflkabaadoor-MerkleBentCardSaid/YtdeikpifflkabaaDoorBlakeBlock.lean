/- What this text proves: the contract of blake's block: what it leaves of a digest under way. The conditions are how the state lies in memory, and that the package's table is as its text lays it. -/
import Derived.Test.YtdeikpifflkabaaDoorBlakeSt
import Derived.Deep.Cut
import Derived.Deep.CutBlock
import Derived.Deep.DeepCutAuto
import Derived.Deep.RegionHeld3
import Derived.Laws.CopyOwn
namespace Go.Proofs.YtdeikpifflkabaaDoor
open Go.RowKit
set_option linter.unusedVariables false
set_option linter.unusedSimpArgs false

theorem hi_b64 : (Tryd.prog.info? 98).map (·.size) = some 64 := by kernel_rfl
theorem hi_u8w : (Tryd.prog.info? 97).map (·.size) = some 8 := by kernel_rfl
theorem zero16 (w : World) : (zeroValue 108).run Tryd.prog w = .ok (.agg (u32s mzero).toArray) w := by
  have h : (Tryd.prog.info? 108).map (·.zero) = some (some (.agg (u32s mzero).toArray)) := by kernel_rfl
  cases hq : Tryd.prog.info? 108 with
  | none => rw [hq] at h; cases h
  | some i =>
    rw [hq] at h
    have h2 : i.zero = some (.agg (u32s mzero).toArray) := by simpa using h
    simp [zeroValue, typeInfo, hq, h2, Sem.run_bind]
theorem mzero_len : mzero.length = 16 := by simp [mzero]

theorem run_index_arr {P : Program} {T e : TypeId} {n i : Nat} {k : IntKind} {cs : Array Value} {v : Value} (w : World) (hT : P.underlying T = some (.array n e)) (he : P.underlying e = some (.int k)) (hs : (sizeOf e).run P w = .ok 1 w) (hi : i < n) (hv : cs[i]? = some v) :
    (Instr.index T (.agg cs) (.int .i64 i)).run P w = .ok v w := by
  have ha : (isAgg e).run P w = .ok false w := by
    unfold isAgg
    rw [Sem.run_bind, run_underlying he w]
    rfl
  have h1 : (0 : Int) ≤ i ∧ (i : Int) < n := by omega
  unfold Instr.index
  simp only [asIntOf, Sem.run_bind, Sem.run_pure, Result.andThen_ok, run_underlying hT w]
  rw [if_pos h1]
  simp [Sem.run_bind, hs, part, ha, hv]
theorem run_index_val {P : Program} {a : Act} {o : Oper} (T : TypeId) (x ix : Operand) (ho : o.op = .index T x ix) {S v i : Value} (hx : a.eval x = S) (hi : a.eval ix = i) {w : World} (hr : (Instr.index T S i).run P w = .ok v w) : (execOp a.eval o).run P w = .ok (.value v) w := run_index_str T x ix ho hx hi hr
theorem hs_u8' : ∀ w, (sizeOf 5).run Tryd.prog w = .ok 1 w := fun w => Tryd.sizeOf5 w
theorem Moves.trans_new {X : Nat → Obj → Prop} {g : Nat} {w w1 w2 : World} (h : Moves X w w1) (h' : Moves (fun k _ => k = g) w1 w2) (hg : w.heap.size ≤ g) : Moves X w w2 :=
  ⟨h'.os.trans h.os, h'.tape.trans h.tape, h'.output.trans h.output, Nat.le_trans h.size h'.size, fun k o hk hn => h'.block k o (h.block k o hk hn) (fun e => by
    have := (Array.getElem?_eq_some_iff.1 hk).1
    omega)⟩
theorem rangeAt_moves {X : Nat → Obj → Prop} {w w' : World} {b off : Nat} {cs : List Value} (h : w.rangeAt b off cs) (hm : Moves X w w') (hx : ∀ o, ¬ X b o) : w'.rangeAt b off cs := fun j v hv => hm.cell (p := ⟨b, off + j, none⟩) (h j v hv) (fun o _ => hx o)
theorem addr_add0 (b j : Nat) : (⟨b, 0, none⟩ : Addr).add j = ⟨b, j, none⟩ := by
  unfold Addr.add
  split <;> simp_all
theorem Bk.all {w : World} {g : Nat} {t : TypeId} {cs : List Value} (h : Bk w g t cs.toArray) : w.rangeAt g 0 cs := h.seg 0 [] cs [] (by simp) rfl
/-- copy into a block that is known whole. -/
theorem wpList_copy_bk {P : Program} {w : World} {ops : Array Oper} {rest : List Oper} {o : Oper} {a : Act} {Q : Exit → Act → World → Prop} (hgd : o.guard = none) (d s : Operand) (dT sT : TypeId)
    (ho : o.op = .call { callee := .builtin .copy, args := #[d, s], argTypes := #[dT, sT] }) (elem : TypeId) (hu : P.underlying dT = some (.slice elem)) (hsz : (P.info? elem).map (·.size) = some 1)
    (g off dLen dCap : Nat) (ad : Addr) (sLen sCap : Nat) (hd : a.eval d = .slice (some ⟨g, off, none⟩) dLen dCap) (hs : a.eval s = .slice (some ad) sLen sCap)
    (cur : List Value) (t : TypeId) (hg : Bk w g t cur.toArray) (cs : List Value) (hn : cs.length = Nat.min sLen dLen) (hsrc : ∀ j v, cs[j]? = some v → w.cell? (ad.add j) = some v) (hfit : off + cs.length ≤ cur.length) (h1 : ∀ v ∈ cs, v.oneCell' = true)
    (h : ∀ w', Bk w' g t (put cur off cs).toArray → Moves (fun k _ => k = g) w w' → w'.heap.size = w.heap.size → wpList P ops Q rest (a.put o.dst (goInt cs.length)) w') : wpList P ops Q (o :: rest) a w := by
  refine wpList_copy_own hgd d s dT sT ho elem hu hsz g off dLen dCap ad sLen sCap hd hs cur.toArray t hg cs hn hsrc (by simpa using hfit) h1 (h _ ?_ ?_ ?_)
  · have := setRow_heap w g _ (put cur off cs).toArray t _ hg
    have e : (cur.toArray.toList.take off ++ (cs ++ cur.toArray.toList.drop (off + cs.length))) = put cur off cs := by simp [put]
    rw [e]
    exact this
  · exact ⟨rfl, rfl, rfl, by simp [World.setRow], fun k o hk hne => (setRow_other w g k _ (fun e => hne e)).trans hk⟩
  · simp [World.setRow]
theorem put_all {cs vs : List Value} (h : vs.length = cs.length) : put cs 0 vs = vs := by simp [put, h]
theorem put_u32s (A B : List Int) (off : Nat) : put (u32s A) off (u32s B) = u32s (A.take off ++ B ++ A.drop (off + B.length)) := by
  simp [put, u32s]
theorem u32s_one {l : List Int} : ∀ v ∈ u32s l, v.oneCell' = true := fun v hv => by
  obtain ⟨x, _, rfl⟩ := List.mem_map.1 hv
  rfl
def zero8L : List Int := List.replicate 8 0
theorem zero8 (w : World) : (zeroValue 97).run Tryd.prog w = .ok (.agg (u32s zero8L).toArray) w := by
  have h : (Tryd.prog.info? 97).map (·.zero) = some (some (.agg (u32s zero8L).toArray)) := by kernel_rfl
  cases hq : Tryd.prog.info? 97 with
  | none => rw [hq] at h; cases h
  | some i =>
    rw [hq] at h
    have h2 : i.zero = some (.agg (u32s zero8L).toArray) := by simpa using h
    simp [zeroValue, typeInfo, hq, h2, Sem.run_bind]
/-- What holds in a block's walk: the state in block gs, the words M in gm, V in gv; w is the world at the start. -/
structure BlAt (w : World) (gs gm gv : Nat) (s : BSt) (M V : List Int) (wr : World) : Prop where
  S : Bk wr gs 100 s.cells.toArray
  m : Bk wr gm 108 (u32s M).toArray
  v : Bk wr gv 108 (u32s V).toArray
  R : Roots wr
  mv : Moves (fun g _ => g = gs) w wr
  ok : s.ok
  lm : M.length = 16
  lv : V.length = 16
  n0 : 0 < gs
  n1 : gs < w.heap.size
  n2 : w.heap.size ≤ gm
  n3 : w.heap.size ≤ gv
  n4 : gm ≠ gv
section
variable {w wr : World} {gs gm gv : Nat} {s : BSt} {M V : List Int}
theorem BlAt.drew (h : BlAt w gs gm gv s M V wr) : BlAt w gs gm gv s M V wr.drew :=
  ⟨h.S.drew, h.m.drew, h.v.drew, (World.rangeAt_drew _ _ _ _).2 h.R, h.mv.trans_ (Moves.drew _ _) (fun _ _ _ h => h), h.ok, h.lm, h.lv, h.n0, h.n1, h.n2, h.n3, h.n4⟩
theorem BlAt.alloc (h : BlAt w gs gm gv s M V wr) (o : Obj) : BlAt w gs gm gv s M V (wr.alloc o) :=
  ⟨h.S.alloc _, h.m.alloc _, h.v.alloc _, World.rangeAt_alloc h.R _, h.mv.trans_ (Moves.alloc _ _ _) (fun _ _ _ h => h), h.ok, h.lm, h.lv, h.n0, h.n1, h.n2, h.n3, h.n4⟩
theorem BlAt.other {g : Nat} {wr' : World} (h : BlAt w gs gm gv s M V wr) (hm : Moves (fun k _ => k = g) wr wr') (h1 : g ≠ gm) (h2 : g ≠ gv) (h3 : w.heap.size ≤ g) (h4 : 0 < g) : BlAt w gs gm gv s M V wr' :=
  have a1 := h.n1; have a2 := h.n2; have a0 := h.n0
  ⟨hm.bk h.S (by omega), hm.bk h.m (fun e => h1 e.symm), hm.bk h.v (fun e => h2 e.symm), rangeAt_moves h.R hm (fun _ => by omega), h.mv.trans_new hm h3, h.ok, h.lm, h.lv, h.n0, h.n1, h.n2, h.n3, h.n4⟩
theorem BlAt.set_m (h : BlAt w gs gm gv s M V wr) (i : Nat) (x : Int) : BlAt w gs gm gv s (M.set i x) V (wr.setCell ⟨gm, i, none⟩ (.int .u32 x)) :=
  have hm : Moves (fun g _ => g = gm) wr (wr.setCell ⟨gm, i, none⟩ (.int .u32 x)) := Moves.setCell _ _ _ (fun _ _ => rfl)
  have a1 := h.n1; have a2 := h.n2; have a0 := h.n0
  ⟨hm.bk h.S (by omega), h.m.set_word i x, hm.bk h.v (fun e => h.n4 e.symm), rangeAt_moves h.R hm (fun _ => by omega), h.mv.trans_new hm h.n2, h.ok, by rw [List.length_set]; exact h.lm, h.lv, h.n0, h.n1, h.n2, h.n3, h.n4⟩
theorem BlAt.v_to {wr' : World} {V' : List Int} (h : BlAt w gs gm gv s M V wr) (hm : Moves (fun g _ => g = gv) wr wr') (hv : Bk wr' gv 108 (u32s V').toArray) (hl : V'.length = 16) : BlAt w gs gm gv s M V' wr' :=
  have a1 := h.n1; have a2 := h.n3; have a0 := h.n0
  ⟨hm.bk h.S (by omega), hm.bk h.m (fun e => h.n4 e), hv, rangeAt_moves h.R hm (fun _ => by omega), h.mv.trans_new hm h.n3, h.ok, h.lm, hl, h.n0, h.n1, h.n2, h.n3, h.n4⟩
theorem BlAt.set_v (h : BlAt w gs gm gv s M V wr) (i : Nat) (x : Int) : BlAt w gs gm gv s M (V.set i x) (wr.setCell ⟨gv, i, none⟩ (.int .u32 x)) :=
  h.v_to (Moves.setCell _ _ _ (fun _ _ => rfl)) (h.v.set_word i x) (by rw [List.length_set]; exact h.lv)
theorem BlAt.set_h (h : BlAt w gs gm gv s M V wr) {i : Nat} (hi : i < 8) (x : Int) : BlAt w gs gm gv { s with h := s.h.set i x } M V (wr.setCell ⟨gs, i, none⟩ (.int .u32 x)) :=
  have hm : Moves (fun g _ => g = gs) wr (wr.setCell ⟨gs, i, none⟩ (.int .u32 x)) := Moves.setCell _ _ _ (fun _ _ => rfl)
  have a1 := h.n1; have a2 := h.n2; have a3 := h.n3; have a0 := h.n0
  ⟨bst_set_h h.S (by rw [h.ok.h]; exact hi) x, hm.bk h.m (by omega), hm.bk h.v (by omega), rangeAt_moves h.R hm (fun _ => by omega), h.mv.trans_ hm (fun _ _ _ h => h), ⟨by simp [h.ok.h], h.ok.b, h.ok.n, h.ok.d0, h.ok.d1⟩, h.lm, h.lv, h.n0, h.n1, h.n2, h.n3, h.n4⟩
end

set_option maxRecDepth 100000 in
set_option maxHeartbeats 8000000 in
theorem block_any (gs : Nat) (s : BSt) (last : Bool) (w : World) (hs : s.ok) (hb : Bk w gs 100 s.cells.toArray) (hr : Roots w) (h0 : 0 < gs) :
    Calls Tryd.prog 60 #[.pointer (some ⟨gs, 0, none⟩), .bool last] w fun e w' => e = .returned (.tuple #[]) ∧ Bk w' gs 100 (BSt.cells { s with h := compress s.h s.b s.done last }).toArray ∧ Moves (fun g _ => g = gs) w w' := by
  have hgl := hb.lt
  have hz16 := zero16
  go_enter Tryd.func60, Tryd.ntmps60
  go_upto_region 1 with fail
  have hB0 : BlAt w gs w.heap.size (w.heap.size + 1) s mzero mzero ((w.alloc (.cells (u32s mzero).toArray 108)).alloc (.cells (u32s mzero).toArray 108)) :=
    ⟨(hb.alloc _).alloc _, (Bk.new w 108 _).alloc _, by have := Bk.new (w.alloc (.cells (u32s mzero).toArray 108)) 108 (u32s mzero).toArray; simpa using this, World.rangeAt_alloc (World.rangeAt_alloc hr _) _, (Moves.alloc _ _ _).trans_ (Moves.alloc _ _ _) (fun _ _ _ h => h), hs, mzero_len, mzero_len, h0, hgl, Nat.le_refl _, by omega, by omega⟩
  obtain ⟨gm, hgm⟩ : ∃ x, w.heap.size = x := ⟨_, rfl⟩
  rw [hgm] at hB0 ⊢
  obtain ⟨gv, hgv⟩ : ∃ x, gm + 1 = x := ⟨_, rfl⟩
  obtain ⟨w0, hw0⟩ : ∃ x, (w.alloc (.cells (u32s mzero).toArray 108)).alloc (.cells (u32s mzero).toArray 108) = x := ⟨_, rfl⟩
  rw [hgv, hw0] at hB0
  rw [hgv, hw0]
  have HB0 := Lib.hid hB0
  obtain ⟨_, rb, _, _⟩ := bst_out hB0.S hs
  have lb : (bts s.b).length = 64 := by rw [bts_len, hs.b]
  clear hB0 hw0 hgv hgm hgl hz16 hr hb
  go_upto_block 0 with (refine wpList_val (by rfl) (run_load_seg 98 _ (by with_reducible rfl) gs 8 (by rfl) _ rb 64 lb _ Tryd.underlying98 (by rfl) hi_b64) ?_)
  clear rb lb
  go_cut [18] (fun _ wx => BlAt w gs gm gv s (mload s.b 0 mzero) mzero wx)
  case first =>
    go_wp2_with fail
    go_loopw [18] (fun i wr => ∃ (k : Nat) (M : List Int), k ≤ 64 ∧ i = .int .i64 k ∧ mload s.b 0 mzero = mload (s.b.drop k) k M ∧ BlAt w gs gm gv s M mzero wr) (fun i _ => 64 - (intOf i).toNat)
    case atStart => exact ⟨0, mzero, by omega, rfl, by simp, HB0.out⟩
    case round =>
      obtain ⟨k, M, hk, rfl, hme, hbl⟩ := hrel
      have HL := Lib.hid hme
      have HB := Lib.hid hbl
      clear hme
      by_cases hlt : k < 64
      · obtain ⟨c, hc⟩ : ∃ c, s.b[k]? = some c := ⟨_, List.getElem?_eq_getElem (by rw [hs.b]; exact hlt)⟩
        have hlt' : (k : Int) < 64 := by omega
        have hcv : (bts s.b).toArray[k]? = some (.int .u8 (c.toNat : Int)) := by rw [List.getElem?_toArray, bts, List.getElem?_map, hc]; rfl
        have hdrop : mload (s.b.drop k) k M = mload (s.b.drop (k + 1)) (k + 1) (mstep M k c.toNat) := by rw [drop_at hc]; rfl
        have HD := Lib.hid hdrop
        have HIX := Lib.hid (fun W => run_index_arr (P := Tryd.prog) W Tryd.underlying98 Tryd.underlying5 (hs_u8' W) hlt hcv)
        clear hbl hdrop hcv hc
        go_upto_region 4 with (refine wpList_val (by rfl) (run_index_val _ _ _ (by with_reducible rfl) (by rfl) (by rfl) (HIX.out wr)) ?_)
        with_reducible refine wp_still_tail 12 (by kernel_rfl) (by kernel_rfl) fun w2 hw2 => ?_
        simp only [List.take_succ_cons, List.take_zero, List.drop_succ_cons, List.drop_zero]
        have H2 : Hid (BlAt w gs gm gv s M mzero w2) := Lib.hid (by rw [hw2]; exact HB.out.drew)
        clear hw2
        have hq16 : k / 4 < 16 := by omega
        have hm := H2.out.m.word H2.out.lm hq16
        have fz := H2.out.m.frozen (k / 4)
        obtain ⟨q, hq⟩ : ∃ q, k / 4 = q := ⟨_, rfl⟩
        obtain ⟨r, hr⟩ : ∃ r, k % 4 = r := ⟨_, rfl⟩
        have hr4 : r < 4 := by omega
        have hlq : (q : Int) < 16 := by omega
        have hqi : (k : Int) / 4 = (q : Int) := by omega
        have hri : (k : Int).tmod 4 = (r : Int) := by rw [Int.tmod_eq_emod_of_nonneg (by omega)]; omega
        have hc256 : c.toNat < 256 := c.toNat_lt
        have wc : IntKind.u32.wrap (c.toNat : Int) = (c.toNat : Int) := by rw [show IntKind.u32.wrap (c.toNat : Int) = (c.toNat : Int) % 4294967296 by rfl]; omega
        obtain ⟨xm, hxm⟩ : ∃ x, M.getD (k / 4) 0 = x := ⟨_, rfl⟩
        rw [hxm, hq] at hm
        rw [hq] at fz
        have wq : IntKind.i64.wrap (q : Int) = q := IntWalk.i64_in _ (by omega)
        have wr8 : IntKind.i64.wrap ((r : Int) * 8) = (r : Int) * 8 := IntWalk.i64_in _ (by omega)
        have r80 : (0 : Int) ≤ (r : Int) * 8 := by omega
        have r81 : (r : Int) * 8 ≤ 32 := by omega
        have HMS : Hid (mstep M k c.toNat = M.set q (bits .or .u32 xm ((c.toNat : Int) * 2 ^ (r * 8) % 4294967296))) := Lib.hid (by simp only [mstep]; rw [hxm, hq, hr]; rfl)
        clear hxm hq hr hq16
        repeat still_step
        with_reducible refine wpStill_nil ?_
        go_wp2_with fail
        go_roundw
        case rel => exact ⟨k + 1, _, by omega, by go_num, by rw [HL.out, HD.out, HMS.out], H2.out.set_m q _⟩
        case measure => simp [intOf]; omega
      · obtain rfl : k = 64 := by omega
        have hfin : mload s.b 0 mzero = M := by rw [HL.out, List.drop_of_length_le (by rw [hs.b]; exact Nat.le_refl _)]; rfl
        clear hbl
        go_wp2_with fail
        go_meet
        case rel => rw [hfin]; exact HB.out
  case rest =>
    have HB := Lib.hid hcut
    obtain ⟨M, hM⟩ : ∃ M, mload s.b 0 mzero = M := ⟨_, rfl⟩
    rw [hM] at HB
    have HM := Lib.hid hM
    clear hM hcut HB0
    have hz8 := zero8
    have hR := HB.out.R
    have hR' : wc.rangeAt 0 0 (u32s rootsL) := hR
    have lr : (u32s rootsL).length = 8 := by rw [u32s_len]; rfl
    have lz : (u32s zero8L).length = 8 := by rw [u32s_len]; rfl
    obtain ⟨g8, hg8⟩ : ∃ x, wc.heap.size = x := ⟨_, rfl⟩
    have hn8 := Bk.new wc 97 (u32s zero8L).toArray
    rw [hg8] at hn8
    have HN8 := Lib.hid hn8
    have HBa := Lib.hid (HB.out.alloc (.cells (u32s zero8L).toArray 97))
    have hmz : w.heap.size ≤ g8 := by rw [← hg8]; exact HB.out.mv.size
    have hvl := HB.out.v.lt
    have hml := HB.out.m.lt
    clear hn8 hR
    go_upto_region 7 with (first
      | (refine wpList_val (by rfl) (run_load_seg 97 _ (by with_reducible rfl) 0 0 (by rfl) _ hR' 8 lr _ Tryd.underlying97 (by rfl) hi_u8w) ?_)
      | (refine wpList_puts (by rfl) 97 _ _ (by with_reducible rfl) g8 0 (by rfl) (u32s rootsL) (by rfl) 97 (u32s zero8L) (by exact HN8.out) 8 lr (by rw [lz]; omega) hi_u8w (all_oneCell_toArray u32s_one) ?_; intro w8 hb_ hm_ hz_; rw [put_all (by rw [lz, lr])] at hb_; have HM8 := Lib.hid hm_; have HR8 := Lib.hid hb_; clear hb_ hm_ hz_))
    have HB8 := Lib.hid (HBa.out.other HM8.out (by omega) (by omega) (by omega) (by have := HB.out.n0; have := HB.out.n1; have := HB.out.n2; omega))
    clear HN8 HBa HM8 hz8 hR'
    have V7l : (s.h ++ zero8L).length = 16 := by simp [hs.h, zero8L]
    -- the first copy
    with_reducible refine wp_still_tail 5 (by kernel_rfl) (by kernel_rfl) fun w9 hw9 => ?_
    simp only [List.take_succ_cons, List.take_zero, List.drop_succ_cons, List.drop_zero]
    have H9 : Hid (BlAt w gs gm gv s M mzero w9) := Lib.hid (by rw [hw9]; exact HB8.out.drew)
    have R9 : Hid (Bk w9 g8 97 (u32s rootsL).toArray) := Lib.hid (by rw [hw9]; exact HR8.out.drew)
    clear hw9
    repeat still_step
    with_reducible refine wpStill_nil ?_
    have hsrc : ∀ j v, (u32s s.h)[j]? = some v → w9.cell? ((⟨gs, 0, none⟩ : Addr).add j) = some v := fun j v hj => by
      have := (bst_out H9.out.S H9.out.ok).1 j v hj
      rw [Nat.zero_add] at this
      rw [addr_add0]
      exact this
    refine wpList_copy_bk rfl (.tmp 36) (.tmp 40) 80 80 (by with_reducible rfl) 81 Tryd.underlying80 (by kernel_rfl) gv 0 16 16 ⟨gs, 0, none⟩ 8 8 (by rfl) (by rfl) (u32s mzero) 108 H9.out.v (u32s s.h) (by rw [u32s_len, hs.h]; rfl) hsrc (by rw [u32s_len, u32s_len, hs.h]; decide) u32s_one ?_
    intro wa ha_ hm_ hz_
    rw [put_u32s] at ha_
    have hV7 : mzero.take 0 ++ s.h ++ mzero.drop (0 + s.h.length) = s.h ++ zero8L := by rw [hs.h]; simp [mzero, zero8L]
    rw [hV7] at ha_
    have Ha := Lib.hid (H9.out.v_to hm_ ha_ V7l)
    have Ra := Lib.hid (hm_.bk R9.out (by omega))
    clear ha_ hm_ hz_ hsrc hV7
    go_upto_region 8 with fail
    -- the second copy
    with_reducible refine wp_still_tail 2 (by kernel_rfl) (by kernel_rfl) fun wb hwb => ?_
    simp only [List.take_succ_cons, List.take_zero, List.drop_succ_cons, List.drop_zero]
    have Hb : Hid (BlAt w gs gm gv s M (s.h ++ zero8L) wb) := Lib.hid (by rw [hwb]; exact Ha.out.drew)
    have Rb : Hid (Bk wb g8 97 (u32s rootsL).toArray) := Lib.hid (by rw [hwb]; exact Ra.out.drew)
    clear hwb
    repeat still_step
    with_reducible refine wpStill_nil ?_
    have hsrc : ∀ j v, (u32s rootsL)[j]? = some v → wb.cell? ((⟨g8, 0, none⟩ : Addr).add j) = some v := fun j v hj => by
      have := Rb.out.all j v hj
      rw [Nat.zero_add] at this
      rw [addr_add0]
      exact this
    refine wpList_copy_bk rfl (.tmp 42) (.tmp 43) 80 80 (by with_reducible rfl) 81 Tryd.underlying80 (by kernel_rfl) gv 8 8 8 ⟨g8, 0, none⟩ 8 8 (by rfl) (by rfl) (u32s (s.h ++ zero8L)) 108 Hb.out.v (u32s rootsL) (by rfl) hsrc (by rw [u32s_len, u32s_len, V7l]; decide) u32s_one ?_
    intro wd hd_ hm_ hz_
    rw [put_u32s] at hd_
    have hV8 : (s.h ++ zero8L).take 8 ++ rootsL ++ (s.h ++ zero8L).drop (8 + rootsL.length) = s.h ++ rootsL := by
      rw [List.take_left' hs.h, List.drop_of_length_le (by rw [V7l]; decide), List.append_nil]
    rw [hV8] at hd_
    have V8l : (s.h ++ rootsL).length = 16 := by simp [hs.h, rootsL]
    have Hd := Lib.hid (Hb.out.v_to hm_ hd_ V8l)
    clear hd_ hm_ hz_ hsrc hV8 Ra Rb R9 HR8 Ha Hb H9 HB8
    go_upto_region 9 with fail
    obtain ⟨V0, hV0⟩ : ∃ V0, s.h ++ rootsL = V0 := ⟨_, rfl⟩
    rw [hV0] at Hd V8l
    have HV0 := Lib.hid hV0
    clear hV0
    have d0 := hs.d0
    have d1 := hs.d1
    -- the twelfth word
    with_reducible refine wp_still_tail 9 (by kernel_rfl) (by kernel_rfl) fun we hwe => ?_
    simp only [List.take_succ_cons, List.take_zero, List.drop_succ_cons, List.drop_zero]
    have He : Hid (BlAt w gs gm gv s M V0 we) := Lib.hid (by rw [hwe]; exact Hd.out.drew)
    clear hwe
    have v12 := He.out.v.word He.out.lv (show 12 < 16 by omega)
    have c73 := (bst_out He.out.S hs).2.2.2
    have fz := He.out.v.frozen 12
    obtain ⟨x12, hx12⟩ : ∃ x, V0.getD 12 0 = x := ⟨_, rfl⟩
    rw [hx12] at v12
    repeat still_step
    with_reducible refine wpStill_nil ?_
    go_upto_region 10 with fail
    have Hf := Lib.hid (He.out.set_v 12 (bits .xor .u32 x12 (s.done % 4294967296)))
    obtain ⟨V1, hV1⟩ : ∃ V1, V0.set 12 (bits .xor .u32 x12 (s.done % 4294967296)) = V1 := ⟨_, rfl⟩
    rw [hV1] at Hf
    have HV1 : Hid (V0.set 12 (bits .xor .u32 (V0.getD 12 0) (s.done % 4294967296)) = V1) := Lib.hid (by rw [hx12]; exact hV1)
    obtain ⟨wf, hwf⟩ : ∃ x, we.setCell ⟨gv, 12, none⟩ (.int .u32 (bits .xor .u32 x12 (s.done % 4294967296))) = x := ⟨_, rfl⟩
    rw [hwf] at Hf ⊢
    clear hwf hV1 hx12 v12 c73 fz He Hd
    -- the thirteenth word
    with_reducible refine wp_still_tail 10 (by kernel_rfl) (by kernel_rfl) fun we hwe => ?_
    simp only [List.take_succ_cons, List.take_zero, List.drop_succ_cons, List.drop_zero]
    have He : Hid (BlAt w gs gm gv s M V1 we) := Lib.hid (by rw [hwe]; exact Hf.out.drew)
    clear hwe
    have v13 := He.out.v.word He.out.lv (show 13 < 16 by omega)
    have c73 := (bst_out He.out.S hs).2.2.2
    have fz := He.out.v.frozen 13
    obtain ⟨x13, hx13⟩ : ∃ x, V1.getD 13 0 = x := ⟨_, rfl⟩
    rw [hx13] at v13
    repeat still_step
    with_reducible refine wpStill_nil ?_
    go_upto_region 11 with fail
    have Hg := Lib.hid (He.out.set_v 13 (bits .xor .u32 x13 (s.done / 4294967296)))
    obtain ⟨V2, hV2⟩ : ∃ V2, V1.set 13 (bits .xor .u32 x13 (s.done / 4294967296)) = V2 := ⟨_, rfl⟩
    rw [hV2] at Hg
    have HV2 : Hid (V1.set 13 (bits .xor .u32 (V1.getD 13 0) (s.done / 4294967296)) = V2) := Lib.hid (by rw [hx13]; exact hV2)
    obtain ⟨wg, hwg⟩ : ∃ x, we.setCell ⟨gv, 13, none⟩ (.int .u32 (bits .xor .u32 x13 (s.done / 4294967296))) = x := ⟨_, rfl⟩
    rw [hwg] at Hg ⊢
    clear hwg hV2 hx13 v13 c73 fz He Hf
    have v14 := Hg.out.v.word Hg.out.lv (show 14 < 16 by omega)
    have fz := Hg.out.v.frozen 14
    obtain ⟨x14, hx14⟩ : ∃ x, V2.getD 14 0 = x := ⟨_, rfl⟩
    rw [hx14] at v14
    have key : ∃ V3, vinit s.h s.done last = V3 := ⟨_, rfl⟩
    cases last
    case' false =>
      go_upto_region 13 with fail
      have Hh : Hid (BlAt w gs gm gv s M (vinit s.h s.done false) wg) := Lib.hid (by
        rw [show vinit s.h s.done false = V2 from by simp only [vinit]; rw [HV0.out, HV1.out, HV2.out]; rfl]
        exact Hg.out)
      obtain ⟨wh, hwh⟩ : ∃ x, wg = x := ⟨_, rfl⟩
      rw [hwh] at Hh ⊢
      obtain ⟨V3, hV3⟩ : ∃ V3, vinit s.h s.done false = V3 := ⟨_, rfl⟩
      have HCC : Hid (compress s.h s.b s.done false = houtF s.h (roundsF V3 M 10) 8) := Lib.hid (by rw [compress, hV3, HM.out])
      rw [hV3] at Hh
      clear hwh hV3
    case' true =>
      go_upto_region 13 with fail
      rw [show (if IntKind.u32.signed = true then (-1 : Int) else IntKind.u32.max) = 4294967295 from rfl]
      have Hh : Hid (BlAt w gs gm gv s M (vinit s.h s.done true) (wg.setCell ⟨gv, 14, none⟩ (.int .u32 (bits .xor .u32 4294967295 x14)))) := Lib.hid (by
        rw [show vinit s.h s.done true = V2.set 14 (bits .xor .u32 4294967295 x14) from by rw [← hx14]; simp only [vinit]; rw [HV0.out, HV1.out, HV2.out]; rfl]
        exact Hg.out.set_v 14 _)
      obtain ⟨wh, hwh⟩ : ∃ x, wg.setCell ⟨gv, 14, none⟩ (.int .u32 (bits .xor .u32 4294967295 x14)) = x := ⟨_, rfl⟩
      rw [hwh] at Hh ⊢
      obtain ⟨V3, hV3⟩ : ∃ V3, vinit s.h s.done true = V3 := ⟨_, rfl⟩
      have HCC : Hid (compress s.h s.b s.done true = houtF s.h (roundsF V3 M 10) 8) := Lib.hid (by rw [compress, hV3, HM.out])
      rw [hV3] at Hh
      clear hwh hV3
    all_goals
      clear key hx14 v14 fz Hg HV0 HV1 HV2
      go_upto_block 2 with fail
      go_cut [70] (fun _ wx => BlAt w gs gm gv s M (roundsF V3 M 10) wx)
      case first =>
        go_wp2_with fail
        go_loopw [70] (fun i wr => ∃ (r : Nat), r ≤ 10 ∧ i = .int .i64 r ∧ BlAt w gs gm gv s M (roundsF V3 M r) wr) (fun i _ => 10 - (intOf i).toNat)
        case atStart => exact ⟨0, by omega, rfl, Hh.out⟩
        case round =>
          obtain ⟨r, hr, rfl, hbl⟩ := hrel
          have HB := Lib.hid hbl
          clear hbl
          by_cases hlt : r < 10
          · have hlt' : (r : Int) < 10 := by omega
            go_upto_block 4 with fail
            go_cut [73] (fun _ wx => BlAt w gs gm gv s M (colsF (roundsF V3 M r) M r 4) wx)
            case first =>
              go_wp2_with fail
              go_loopw [73] (fun i wr => ∃ (k : Nat), k ≤ 4 ∧ i = .int .i64 k ∧ BlAt w gs gm gv s M (colsF (roundsF V3 M r) M r k) wr) (fun i _ => 4 - (intOf i).toNat)
              case atStart => exact ⟨0, by omega, rfl, HB.out⟩
              case round =>
                obtain ⟨k, hk, rfl, hbl⟩ := hrel
                have HK := Lib.hid hbl
                clear hbl
                by_cases hk4 : k < 4
                · have hk4' : (k : Int) < 4 := by omega
                  go_wp2_with fail
                  rw [show (4 : Int) + (k : Int) = ((4 + k : Nat) : Int) from by omega, show (8 : Int) + (k : Int) = ((8 + k : Nat) : Int) from by omega, show (12 : Int) + (k : Int) = ((12 + k : Nat) : Int) from by omega, show (16 : Int) * (r : Int) + 2 * (k : Int) = ((16 * r + 2 * k : Nat) : Int) from by omega]
                  with_reducible refine (g_any (colsF (roundsF V3 M r) M r k) M k (4 + k) (8 + k) (12 + k) (16 * r + 2 * k) gv gm wr (by omega) HK.out.v HK.out.m (Ne.symm HK.out.n4) HK.out.lv HK.out.lm (by omega) (by omega) (by omega) (by omega)).mono ?_
                  rintro e w5 ⟨rfl, hb5, hm5⟩
                  have HK5 := Lib.hid (HK.out.v_to hm5 hb5 (by rw [gF_len]; exact HK.out.lv))
                  clear hb5 hm5
                  go_wp2_with fail
                  go_roundw
                  case rel => exact ⟨k + 1, by omega, by go_num, HK5.out⟩
                  case measure => simp [intOf]; omega
                · obtain rfl : k = 4 := by omega
                  go_wp2_with fail
                  go_meet
                  case rel => exact HK.out
            case rest =>
              have HQ := Lib.hid hcut
              clear hcut
              go_wp2_with fail
              go_loopw [91] (fun i wr => ∃ (k : Nat), k ≤ 4 ∧ i = .int .i64 k ∧ BlAt w gs gm gv s M (diagF (colsF (roundsF V3 M r) M r 4) M r k) wr) (fun i _ => 4 - (intOf i).toNat)
              case atStart => exact ⟨0, by omega, rfl, HQ.out⟩
              case round =>
                obtain ⟨k, hk, rfl, hbl⟩ := hrel
                have HK := Lib.hid hbl
                clear hbl
                by_cases hk4 : k < 4
                · have hk4' : (k : Int) < 4 := by omega
                  go_wp2_with fail
                  rw [show (4 : Int) + ((k : Int) + 1) % 4 = ((4 + (k + 1) % 4 : Nat) : Int) from by omega, show (8 : Int) + ((k : Int) + 2) % 4 = ((8 + (k + 2) % 4 : Nat) : Int) from by omega, show (12 : Int) + ((k : Int) + 3) % 4 = ((12 + (k + 3) % 4 : Nat) : Int) from by omega, show (16 : Int) * (r : Int) + 8 + 2 * (k : Int) = ((16 * r + 8 + 2 * k : Nat) : Int) from by omega]
                  with_reducible refine (g_any (diagF (colsF (roundsF V3 M r) M r 4) M r k) M k (4 + (k + 1) % 4) (8 + (k + 2) % 4) (12 + (k + 3) % 4) (16 * r + 8 + 2 * k) gv gm wr (by omega) HK.out.v HK.out.m (Ne.symm HK.out.n4) HK.out.lv HK.out.lm (by omega) (by omega) (by omega) (by omega)).mono ?_
                  rintro e w5 ⟨rfl, hb5, hm5⟩
                  have HK5 := Lib.hid (HK.out.v_to hm5 hb5 (by rw [gF_len]; exact HK.out.lv))
                  clear hb5 hm5
                  go_wp2_with fail
                  go_roundw
                  case rel => exact ⟨k + 1, by omega, by go_num, HK5.out⟩
                  case measure => simp [intOf]; omega
                · obtain rfl : k = 4 := by omega
                  go_wp2_with fail
                  go_roundw
                  case rel => exact ⟨r + 1, by omega, by go_num, HK.out⟩
                  case measure => simp [intOf]; omega
          · obtain rfl : r = 10 := by omega
            go_wp2_with fail
            go_meet
            case rel => exact HB.out
      case rest =>
        obtain ⟨V, hV⟩ : ∃ V, roundsF V3 M 10 = V := ⟨_, rfl⟩
        rw [hV] at hcut HCC
        have HR := Lib.hid hcut
        clear hcut hV
        go_wp2_with fail
        go_loopw [117] (fun i wr => ∃ (k : Nat) (h' : List Int), k ≤ 8 ∧ i = .int .i64 k ∧ h' = houtF s.h V k ∧ BlAt w gs gm gv { s with h := h' } M V wr) (fun i _ => 8 - (intOf i).toNat)
        case atStart => exact ⟨0, _, by omega, rfl, rfl, HR.out⟩
        case round =>
          obtain ⟨k, h', hk, rfl, hh, hbl⟩ := hrel
          have HB := Lib.hid hbl
          have HH := Lib.hid hh
          clear hbl hh
          by_cases hlt : k < 8
          · have hlt' : (k : Int) < 8 := by omega
            go_upto_region 31 with fail
            with_reducible refine wp_still_tail 18 (by kernel_rfl) (by kernel_rfl) fun we hwe => ?_
            simp only [List.take_succ_cons, List.take_zero, List.drop_succ_cons, List.drop_zero]
            have He : Hid (BlAt w gs gm gv { s with h := h' } M V we) := Lib.hid (by rw [hwe]; exact HB.out.drew)
            clear hwe
            have v1 := He.out.v.word He.out.lv (show k < 16 by omega)
            have v2 := He.out.v.word He.out.lv (show k + 8 < 16 by omega)
            have hk1 := bst_h He.out.S (i := k) (by have := He.out.ok.h; simp only at this ⊢; omega)
            have fz := He.out.S.frozen k
            have w8 : IntKind.i64.wrap ((k : Int) + 8) = (k : Int) + 8 := IntWalk.i64_in _ (by omega)
            have w80 : (0 : Int) ≤ (k : Int) + 8 := by omega
            have hk16 : (k : Int) < 16 := by omega
            have w81 : (k : Int) + 8 < 16 := by omega
            have w82 : ((k : Int) + 8).toNat = k + 8 := by omega
            (try simp only at hk1)
            obtain ⟨y1, hy1⟩ : ∃ x, V.getD k 0 = x := ⟨_, rfl⟩
            obtain ⟨y2, hy2⟩ : ∃ x, V.getD (k + 8) 0 = x := ⟨_, rfl⟩
            obtain ⟨y3, hy3⟩ : ∃ x, h'.getD k 0 = x := ⟨_, rfl⟩
            rw [hy1] at v1
            rw [hy2] at v2
            rw [hy3] at hk1
            have HN : Hid (houtF s.h V (k + 1) = h'.set k (bits .xor .u32 y3 (bits .xor .u32 y1 y2))) := Lib.hid (by rw [houtF, ← HH.out, hy1, hy2, hy3])
            clear hy1 hy2 hy3
            repeat still_step
            with_reducible refine wpStill_nil ?_
            clear w8 w80 w81 w82
            go_wp2_with fail
            go_roundw
            case rel => exact ⟨k + 1, _, by omega, by go_num, HN.out.symm, He.out.set_h hlt _⟩
            case measure => simp [intOf]; omega
          · obtain rfl : k = 8 := by omega
            go_wp2_with fail
            go_end0
            exact ⟨rfl, by rw [HCC.out, ← HH.out]; exact HB.out.S, HB.out.mv⟩
end Go.Proofs.YtdeikpifflkabaaDoor
