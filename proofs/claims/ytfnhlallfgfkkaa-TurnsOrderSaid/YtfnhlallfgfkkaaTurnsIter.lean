/- What this text proves: the contract of the iterator that turns.turns makes, for any right list of validators. -/
import Derived.Test.YtfnhlallfgfkkaaVals
import Derived.Test.YtfnhlallfgfkkaaTurnsMath
import Derived.Test.YtfnhlallfgfkkaaSeq
import Derived.BigFrameIn
import Derived.Sort.QuietIn
namespace Go.Proofs.Ytfnhlallfgfkkaa
open Go.RowKit Go.Shelf
set_option linter.unusedVariables false
set_option linter.unusedSimpArgs false
attribute [local go_sem] Oper.semAt_some wide_fn wide_depth

theorem made_one (z : Value) (n : Nat) (hz : z.cells = #[z]) : madeCells z.cells n = (List.replicate n z).toArray := by
  rw [hz]
  apply Array.ext
  · simp [madeCells]
  · intro i h1 h2
    simp [madeCells, Nat.mod_one]
theorem info_int : (Try.prog.info? 3).map (fun i => (i.zero, i.size, i.bytes)) = some (some (.int .i64 0), 1, 8) := by kernel_rfl

def ints (p : List Int) : Array Value := (p.map (Value.int .i64)).toArray
theorem ints_get (p : List Int) (i : Nat) : (ints p)[i]? = (p[i]?).map (Value.int .i64) := by simp [ints]

theorem make_ints (n : Nat) (hn : n ≤ 64) (W : World) : (Instr.makeSlice 49 (.int .i64 (n : Int)) (.int .i64 (n : Int))).run Try.prog W = .ok (.slice (some ⟨W.heap.size, 0, none⟩) n n) (W.alloc (.cells (ints (List.replicate n 0)) 3)) := by
  obtain ⟨i0, hi, hz0, hz1, hz2⟩ := info_parts info_int
  have h := run_make (P := Try.prog) W 49 3 i0 _ Try.underlying49 hi hz0 .i64 .i64 (n : Int) (n : Int) (by omega) (by omega) (by rw [hz2]; omega) (by omega)
  simp only [Int.toNat_natCast, hz1, Nat.mul_one] at h
  rw [h, made_one _ _ rfl]
  simp [ints]

/-- What turns: blocks of the iterator's own, of ints and of validators. -/
def TX (B : Nat) (k : Nat) (o : Obj) : Prop := B ≤ k ∧ ∃ c e f, o = .cells c e f ∧ (e = 3 ∨ e = 32)
/-- What a round keeps. -/
def TT (e : TypeId) : Prop := e = 3 ∨ e = 22
def tEnc (l : List (Int × Int)) (t : Nat) : Array Value := #[.int .i64 t, .int .u64 (keyAt l t)]
def TRel (l : List (Int × Int)) (J : List Nat → World → Prop) (n₀ : Nat) (A : Option Addr) (PB bx : Nat) (c : Nat) (t : Nat) (wr : World) : Prop :=
  J (List.range t) wr ∧ Bk wr PB 3 (ints (prioAt l t)) ∧ Bk wr bx 22 #[.slice A l.length c] ∧ Sl wr n₀ 2 A l.length (vCells l)

set_option maxHeartbeats 4000000 in
theorem turns_seq (n n₀ N : Nat) (hN : N ≤ 4096) (bx c : Nat) (A : Option Addr) (l : List (Int × Int)) (hr : rightV l = true) (w : World) (hn₀ : n₀ ≤ w.heap.size) (hbx : Bk w bx 22 #[.slice A l.length c]) (hA : Sl w n₀ 2 A l.length (vCells l)) :
    SeqJ n Try.prog 23 #[.pointer (some ⟨bx, 0, none⟩)] (tEnc l) (TX w.heap.size) (Leaves n₀ TT) (fun _ => False) (fun pre => ∃ t, t < N ∧ pre = List.range (t + 1)) (· < N) w := by
  intro L J Jx W hm hL1 hL2 hJ hJx hBd hY h0
  obtain ⟨r2, r3, r4, r5⟩ := rightV_sum hr
  have hmk := make_ints l.length r5
  have hbW := hm.bk hbx (fun h => h)
  have hAW := hA.moves hm (fun _ _ h => h.elim)
  have hsz := hm.size
  have hT := total_any A l c W (by unfold maxLen; omega) (hAW.more (by omega))
  have hlv := Lib.hid (fun W1 (h1 : Below W.heap.size W W1) => And.intro (hbW.below h1 hbW.lt) (And.intro ((hAW.below (h1.mono (by omega))))
    (hJ _ _ _ h0 (Moves.below _ h1 (Nat.le_refl _)))))
  obtain ⟨T, hTe⟩ : ∃ T, (sumV 0 l).1 = T := ⟨_, rfl⟩
  have hTb := sumV_right l 0 (by omega) (by omega) r2
  rw [hTe] at hTb
  rw [show totalV l = (T, 0) from by rw [totalV, if_pos hr, hTe]] at hT
  have HTe := Lib.hid hTe
  obtain ⟨hT0, hT1, hpw⟩ := hTb
  have HPW := Lib.hid hpw
  have HT := Lib.hid hT
  have HA := Lib.hid hA
  have HM := Lib.hid hm
  have hcb := hbW.cell 0
  have R2 := Lib.hid r2
  have R3 := Lib.hid r3
  have HR := Lib.hid hr
  clear hT hTe hpw hr hA hm hbW hAW hbx r2 r3 h0
  refine callsIn_of_wp Try.func23 rfl trivial ?_ rfl
  simp only [Try.ntmps23, List.size_toArray, List.length_cons, List.length_nil, Nat.reduceAdd, Nat.reduceSub, Array.replicate_succ, Array.replicate_zero, List.push_toArray, List.append_toArray, List.nil_append, List.cons_append]
  gi_wp2_with (gi_at_call 8; refine (callsIn_wide.2 HT.out).mono ?_; rintro e w1 ⟨rfl, hb1⟩; obtain ⟨hbk1, hA1, hJ1⟩ := hlv.out w1 hb1; have hcb1 := hbk1.cell 0; have hsz1 := hb1.size)
  have hPB := Bk.new w1 3 (ints (List.replicate l.length 0))
  have hbk2 := hbk1.alloc (.cells (ints (List.replicate l.length 0)) 3)
  have hA2 := hA1.below (w' := w1.alloc (.cells (ints (List.replicate l.length 0)) 3)) ((Below.refl n₀ w1).alloc (by omega) _)
  have hJ2 := hJ _ _ _ hJ1 (Moves.alloc _ w1 (.cells (ints (List.replicate l.length 0)) 3))
  obtain ⟨PB, hPBe⟩ : ∃ PB, w1.heap.size = PB := ⟨_, rfl⟩
  have hPBl : n₀ ≤ PB ∧ w.heap.size ≤ PB := by omega
  rw [hPBe] at hPB ⊢
  obtain ⟨w2, hw2⟩ : ∃ w2, w1.alloc (.cells (ints (List.replicate l.length 0)) 3) = w2 := ⟨_, rfl⟩
  rw [hw2] at hPB hbk2 hA2 hJ2 ⊢
  clear hbk1 hA1 hJ1 hcb1 hcb HT hlv hmk hb1 hw2 hPBe hsz1
  gi_loopw [6] (fun t wr => ∃ k : Nat, k < N ∧ t = .int .i64 k ∧ J (List.range k) wr ∧ Bk wr PB 3 (ints (prioAt l k)) ∧ Bk wr bx 22 #[.slice A l.length c] ∧ Sl wr n₀ 2 A l.length (vCells l) ∧ PB < wr.heap.size) (fun t _ => N - (intOf t).toNat)
  case atStart => exact ⟨0, by have := hBd _ _ hJ2; simpa using this, rfl, hJ2, hPB, hbk2, hA2, hPB.lt⟩
  case round =>
    obtain ⟨k, hkN, rfl, hJk, hPk, hbk, hAk, hlt⟩ := hrel
    obtain ⟨wo, rfl⟩ : ∃ wo : World, wo = wr := ⟨_, rfl⟩
    clear hPB hbk2 hA2 hJ2
    have hcb := hbk.cell 0
    gi_wp2
    have hpl := prioAt_len l k
    have hql := qAt_len l k
    have hpb := prioAt_bd HR.out k
    obtain ⟨p, hpe⟩ : ∃ p, prioAt l k = p := ⟨_, rfl⟩
    obtain ⟨q, hqe⟩ : ∃ q, qAt l k = q := ⟨_, rfl⟩
    have hqadd : q = addW p l := by rw [← hqe, ← hpe]; rfl
    rw [hpe] at hpl hpb hPk
    rw [hqe] at hql
    have HQA := Lib.hid hqadd
    have HPE := Lib.hid hpe
    have HQE := Lib.hid hqe
    have HPB := Lib.hid hpb
    have HPL := Lib.hid hpl
    have HQL := Lib.hid hql
    clear hqadd hpe hqe hpb hpl hql
    gi_loopw [7, 22] (fun who i wr => ∃ j : Nat, j ≤ l.length ∧ i = .int .i64 j ∧ who = .int .i64 (argK q j) ∧ J (List.range k) wr ∧ Bk wr PB 3 (ints (mid q p j)) ∧ Bk wr bx 22 #[.slice A l.length c] ∧ Sl wr n₀ 2 A l.length (vCells l) ∧ PB < wr.heap.size) (fun _ i _ => l.length - (intOf i).toNat)
    case atStart => exact ⟨0, by omega, rfl, rfl, hJk, by rw [mid_zero]; exact hPk, hbk, hAk, hlt⟩
    case round =>
      clear hJk hPk hbk hAk hcb hlt
      obtain ⟨j, hj, rfl, rfl, hJk, hPk, hbk, hAk, hlt⟩ := hrel
      by_cases hjl : j < l.length
      · obtain ⟨b, off, ke, pe, rfl, hb, hck, hcp, hlk⟩ := hAk.val hjl
        obtain ⟨pj, hpj⟩ := some_of (show j < p.length by rw [HPL.out]; exact hjl)
        have hqj : q[j]? = some (pj + pe) := by rw [HQA.out]; exact addW_get hpj hlk
        have hbd := HPB.out pj (List.mem_of_getElem? hpj)
        have hpe1 := HPW.out _ (List.mem_of_getElem? hlk)
        have hw1 : argK q j ≤ j := argK_le q j
        have hcj : wr.cell? ⟨PB, j, none⟩ = some (.int .i64 pj) := by rw [hPk.cell, ints_get, mid_at HQL.out HPL.out hjl, hpj]; rfl
        have hfj : wr.frozen? ⟨PB, j, none⟩ = false := hPk.frozen j
        have e1 : IntKind.i64.wrap (pj + pe) = pj + pe := IntWalk.i64_in _ (by simp at hpe1; omega)
        have HH := Lib.hid (And.intro hpj (And.intro hqj (And.intro hlk (And.intro hbd hpe1))))
        clear hpj hqj hlk hbd hpe1
        gi_wp2
        gi_region
        obtain ⟨hpj, hqj, hlk, hbd, hpe1⟩ := HH.out
        have hP9 : Bk (wr.setCell ⟨PB, j, none⟩ (.int .i64 (pj + pe))) PB 3 (ints (mid q p (j + 1))) := by
          rw [← mid_set HQL.out HPL.out hjl hqj]
          have := hPk.set_ j (.int .i64 (pj + pe))
          rw [show (ints (mid q p j)).setIfInBounds j (.int .i64 (pj + pe)) = ints ((mid q p j).set j (pj + pe)) from by simp [ints, List.map_set]] at this
          exact this
        have hb9 : Bk (wr.setCell ⟨PB, j, none⟩ (.int .i64 (pj + pe))) bx 22 #[.slice (some ⟨b, off, none⟩) l.length c] := hbk.far (fun e => hbk.ne_ hPk (by decide) e) _
        have hm9 : Moves (TX w.heap.size) wr (wr.setCell ⟨PB, j, none⟩ (.int .i64 (pj + pe))) :=
          Moves.setCell _ _ _ (fun o ho => by
            have ho' : wr.heap[PB]? = some o := ho
            rw [show wr.heap[PB]? = _ from hPk] at ho'
            cases ho'
            exact ⟨hPBl.2, _, _, _, rfl, .inl rfl⟩)
        have hJ9 := hJ _ _ _ hJk hm9
        have hA9 := hAk.moves (W' := wr.setCell ⟨PB, j, none⟩ (.int .i64 (pj + pe))) hm9 (fun k o hx => Nat.le_trans hn₀ hx.1)
        have hl9 : PB < (wr.setCell ⟨PB, j, none⟩ (.int .i64 (pj + pe))).heap.size := hP9.lt
        obtain ⟨w9, hw9⟩ : ∃ w9, wr.setCell ⟨PB, j, none⟩ (.int .i64 (pj + pe)) = w9 := ⟨_, rfl⟩
        rw [hw9] at hP9 hb9 hJ9 hA9 hl9 ⊢
        clear hw9 hm9 hcj hfj hJk hPk hbk hAk hlt hck hcp
        have hP10 := (hP9.alloc (.cells #[.int .u64 ke, .int .i64 pe] 32)).drew
        have hb10 := (hb9.alloc (.cells #[.int .u64 ke, .int .i64 pe] 32)).drew
        have hJ10 := hJ _ _ _ (hJ _ _ _ hJ9 (Moves.alloc _ _ (.cells #[.int .u64 ke, .int .i64 pe] 32))) (Moves.drew _ _)
        have hA10 := (hA9.moves (Moves.alloc (TX w.heap.size) _ (.cells #[.int .u64 ke, .int .i64 pe] 32)) (fun k o hx => Nat.le_trans hn₀ hx.1)).moves (Moves.drew (TX w.heap.size) _) (fun k o hx => Nat.le_trans hn₀ hx.1)
        obtain ⟨w10, hw10⟩ : ∃ w10, (w9.alloc (.cells #[.int .u64 ke, .int .i64 pe] 32)).drew = w10 := ⟨_, rfl⟩
        rw [hw10] at hP10 hb10 hJ10 hA10 ⊢
        have hl10 := hP10.lt
        clear hw10 hP9 hb9 hJ9 hA9 hl9
        have hc1 : w10.cell? ⟨PB, j, none⟩ = some (.int .i64 (pj + pe)) := by rw [hP10.cell, ints_get, mid_lt HQL.out (by omega) (by omega), hqj]; rfl
        obtain ⟨qw, hqw⟩ := some_of (show argK q j < q.length by rw [HQL.out]; omega)
        have hc2 : w10.cell? ⟨PB, argK q j, none⟩ = some (.int .i64 qw) := by rw [hP10.cell, ints_get, mid_lt HQL.out (by omega) (by omega), hqw]; rfl
        have hdq : argK q (j + 1) = if qw < pj + pe then j else argK q j := by rw [argK, getD_of hqj, getD_of hqw]
        have HDQ := Lib.hid hdq
        have hwl : argK q j < l.length := by omega
        obtain ⟨wh, hwhe⟩ : ∃ wh, argK q j = wh := ⟨_, rfl⟩
        rw [hwhe] at hc2 hwl hw1 HDQ ⊢
        clear hdq hqw hqj hpj hlk hbd hpe1 HH hwhe
        gi_wp2
        gi_quiet (fail)
        have hJ11 := hJ _ _ _ hJ10 (Moves.drewN _ w10 nq)
        have hA11 := hA10.moves (Moves.drewN (TX w.heap.size) w10 nq) (fun k o hx => Nat.le_trans hn₀ hx.1)
        by_cases hq : qw < pj + pe
        · gi_wp2
          go_roundw
          case rel => exact ⟨j + 1, by omega, by go_num, by rw [HDQ.out, if_pos hq], hJ11, hP10.drewN nq, hb10.drewN nq, hA11, hl10⟩
          case measure => simp [intOf]; omega
        · gi_wp2
          go_roundw
          case rel => exact ⟨j + 1, by omega, by go_num, by rw [HDQ.out, if_neg hq], hJ11, hP10.drewN nq, hb10.drewN nq, hA11, hl10⟩
          case measure => simp [intOf]; omega
      · obtain rfl : j = l.length := by omega
        rw [mid_full HQL.out HPL.out] at hPk
        have hl0 : 0 < l.length := by omega
        have hwl : argK q l.length < l.length := argK_lt q _ hl0 _ (Nat.le_refl _)
        obtain ⟨qw, hqw⟩ := some_of (show argK q l.length < q.length by rw [HQL.out]; exact hwl)
        have hcw : wr.cell? ⟨PB, argK q l.length, none⟩ = some (.int .i64 qw) := by rw [hPk.cell, ints_get, hqw]; rfl
        have hfw : wr.frozen? ⟨PB, argK q l.length, none⟩ = false := hPk.frozen _
        have hnext : prioAt l (k + 1) = q.set (argK q l.length) (qw - T) := by
          rw [prioAt_succ, whoAt, HQE.out, HTe.out, getD_of hqw]
        have hkey : keyAt l k = (l.getD (argK q l.length) (0, 0)).1 := by rw [keyAt, whoAt, HQE.out]
        have hwb : -(k * 1125899906842624) ≤ qw ∧ qw ≤ k * 1125899906842624 + 1125899906842624 := by
          obtain ⟨pw, hpw⟩ := some_of (show argK q l.length < p.length by rw [HPL.out]; exact hwl)
          obtain ⟨vw, hvw⟩ := some_of hwl
          have h1 := addW_get hpw hvw
          rw [← HQA.out, hqw] at h1
          have h2 := HPB.out pw (List.mem_of_getElem? hpw)
          have h3 := HPW.out _ (List.mem_of_getElem? hvw)
          injection h1 with h1
          omega
        obtain ⟨wh, hwhe⟩ : ∃ wh, argK q l.length = wh := ⟨_, rfl⟩
        rw [hwhe] at hwl hqw hcw hfw hnext hkey ⊢
        have HN := Lib.hid (And.intro hnext (And.intro hkey hqw))
        have HWB := Lib.hid hwb
        obtain ⟨hwb1, hwb2⟩ := hwb
        have e1 : IntKind.i64.wrap (qw - T) = qw - T := IntWalk.i64_in _ (by omega)
        have hm9 : Moves (TX w.heap.size) wr (wr.setCell ⟨PB, wh, none⟩ (.int .i64 (qw - T))) :=
          Moves.setCell _ _ _ (fun o ho => by
            have ho' : wr.heap[PB]? = some o := ho
            rw [show wr.heap[PB]? = _ from hPk] at ho'
            cases ho'
            exact ⟨hPBl.2, _, _, _, rfl, .inl rfl⟩)
        have hP9 : Bk (wr.setCell ⟨PB, wh, none⟩ (.int .i64 (qw - T))) PB 3 (ints (prioAt l (k + 1))) := by
          rw [hnext]
          have := hPk.set_ wh (.int .i64 (qw - T))
          rw [show (ints q).setIfInBounds wh (.int .i64 (qw - T)) = ints (q.set wh (qw - T)) from by simp [ints, List.map_set]] at this
          exact this
        have hb9 : Bk (wr.setCell ⟨PB, wh, none⟩ (.int .i64 (qw - T))) bx 22 #[.slice A l.length c] := hbk.far (fun e => hbk.ne_ hPk (by decide) e) _
        have hJ9 := hJ _ _ _ hJk hm9
        have hA9 := hAk.moves (W' := wr.setCell ⟨PB, wh, none⟩ (.int .i64 (qw - T))) hm9 (fun k o hx => Nat.le_trans hn₀ hx.1)
        have hcb := hb9.cell 0
        obtain ⟨b, off, ke, pe, rfl, hb, hck, hcp, hlk⟩ := hA9.val hwl
        have hkey' : keyAt l k = ke := by rw [hkey, getD_of hlk]
        obtain ⟨fn, tmps, assign, body, hy, hR⟩ := hY (List.range k) k _ hJ9 ⟨k, hkN, List.range_succ.symm⟩
        rw [tEnc, hkey'] at hy
        have HP9 := Lib.hid hP9
        have HB9 := Lib.hid hb9
        have HA9 := Lib.hid hA9
        clear hnext hkey hqw hwhe HQA HPB HPL HQL hkey' hP9 hb9 hA9 hJ9 hm9 hPk hbk hAk hJk hcp hlk
        gi_wp2
        refine hR.mono ?_
        rintro e W3 (⟨rfl, hJ3, hk3⟩ | ⟨rfl, hJx3⟩)
        · gi_wp2
          go_roundw
          case rel => exact ⟨k + 1, by have := hBd _ _ hJ3; simpa using this, by go_num, by rw [List.range_succ]; exact hJ3, hk3.bk HP9.out (.inl rfl), hk3.bk HB9.out (.inr rfl), HA9.out.leaves hk3, (hk3.bk HP9.out (.inl rfl)).lt⟩
          case measure => simp [intOf]; omega
        · gi_wp2
          refine bodyPost_ret (results_none rfl _ _ _) rfl ?_
          exact ⟨⟨_, rfl⟩, .inr ⟨_, ⟨k, hkN, rfl⟩, by rw [List.range_succ]; exact hJx3⟩⟩
end Go.Proofs.Ytfnhlallfgfkkaa
