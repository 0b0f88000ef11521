/- What this text proves: the contract of the iterator over the frames at the beginning of bytes. The conditions are how the bytes lie in memory, and that the package's table is as its text lays it. -/
import Derived.Test.YtpmmojjffjpmbaaDoorWalFrame
import Derived.Test.YtpmmojjffjpmbaaDoorTape
import Derived.BigFrameIn
import Derived.Sort.QuietIn
import Derived.Stop.RegionWithIn
namespace Go.Proofs.YtpmmojjffjpmbaaDoor
open Go.RowKit Go.Shelf
set_option linter.unusedVariables false
set_option linter.unusedSimpArgs false
attribute [local go_sem] Oper.semAt_some wide_fn wide_depth

set_option maxHeartbeats 1000000 in
theorem equal_any (A A' : Option Addr) (xs ys : List UInt8) (m n c c' : Nat) (hm : xs.length = m) (hn : ys.length = n) (w : World) (hA : Sl w w.heap.size 1 A m (bts xs)) (hA' : Sl w w.heap.size 1 A' n (bts ys)) :
    Calls Tryd.prog 38 #[.slice A m c, .slice A' n c'] w fun e w' => e = .returned (.bool (decide (xs = ys))) ∧ Below w.heap.size w w' := by
  subst hm hn
  have h1 := run_conv (P := Tryd.prog) (dst := 9) Tryd.underlying22 Tryd.underlying5 Tryd.underlying9 c hA
  have h2 := run_conv (P := Tryd.prog) (dst := 9) Tryd.underlying22 Tryd.underlying5 Tryd.underlying9 c' hA'
  have HE := Lib.hid (strOf_eq xs ys)
  obtain ⟨X, hX⟩ : ∃ X, strOf xs = X := ⟨_, rfl⟩
  obtain ⟨Y, hY⟩ : ∃ Y, strOf ys = Y := ⟨_, rfl⟩
  rw [hX, hY] at HE
  rw [hX] at h1
  rw [hY] at h2
  clear hA hA' hX hY
  go_enter Tryd.func38, Tryd.ntmps38
  go_wp2
  go_ret
  refine ⟨ret_bool ?_, (by (first | assumption | (repeat (first | exact Below.refl _ _ | assumption | apply Below.drew | apply below_drewN | (refine Below.setCell ?_ (by (try simp) <;> omega) _) | (refine Below.alloc ?_ (by (try simp) <;> omega) _)))))⟩
  exact HE.out

set_option maxHeartbeats 1000000 in
theorem prefix_any (A A' : Option Addr) (xs ys : List UInt8) (m n c c' : Nat) (hm : xs.length = m) (hn : ys.length = n) (hle : n ≤ m) (hc : m ≤ c) (w : World) (hA : Sl w w.heap.size 1 A m (bts xs)) (hA' : Sl w w.heap.size 1 A' n (bts ys)) :
    Calls Tryd.prog 34 #[.slice A m c, .slice A' n c'] w fun e w' => e = .returned (.bool (decide (xs.take n = ys))) ∧ Below w.heap.size w w' := by
  have h1 := hA.take hle
  rw [Nat.mul_one, bts_take] at h1
  have HE := Lib.hid (equal_any A A' (xs.take n) ys n n c c' (by rw [List.length_take]; omega) hn w h1 hA')
  have k1 : (n : Int) ≤ (m : Int) := by omega
  have k2 : (n : Int) ≤ (c : Int) := by omega
  clear hA hA' h1 hm hn
  go_enter Tryd.func34, Tryd.ntmps34
  go_wp2_with fail
  with_reducible refine HE.out.mono ?_
  rintro e w1 ⟨rfl, hb1⟩
  go_wp2_with fail
  go_ret
  exact ⟨rfl, hb1⟩

theorem Roots.keepX {n₀ bx : Nat} {W W' : World} (h : Roots W) (hk : KeepX n₀ bx W W') (h0 : 0 < n₀) : Roots W' := by
  intro j v hj
  have hc := h j v hj
  obtain ⟨o, ho, _⟩ := cells_of_cell hc
  exact (World.cell?_of_block ((hk.2 _ o ho (.inl h0)).trans ho.symm)).trans hc

theorem or_w (x y : UInt8) : bits .or .i64 (wrap64 (wrap64 (x.toNat : Int) * 256)) (wrap64 (y.toNat : Int)) = ((x.toNat * 256 + y.toNat : Nat) : Int) := by
  have hx : x.toNat < 256 := UInt8.toNat_lt x
  have hy : y.toNat < 256 := UInt8.toNat_lt y
  obtain ⟨a, ha⟩ : ∃ a, x.toNat = a := ⟨_, rfl⟩
  obtain ⟨b, hb⟩ : ∃ b, y.toNat = b := ⟨_, rfl⟩
  rw [ha] at hx ⊢
  rw [hb] at hy ⊢
  clear ha hb
  have e1 : wrap64 (wrap64 (a : Int) * 256) = ((a * 256 : Nat) : Int) := by
    rw [IntWalk.wrap64_in (a : Int) (by omega), IntWalk.wrap64_in _ (by omega)]
    omega
  have e2 : wrap64 (b : Int) = (b : Int) := IntWalk.wrap64_in _ (by omega)
  rw [e1, e2]
  have e : bits .or .i64 ((a * 256 : Nat) : Int) (b : Int) = IntKind.i64.wrap (((BitVec.ofInt 64 ((a * 256 : Nat) : Int)) ||| (BitVec.ofInt 64 (b : Int))).toNat : Int) := by rfl
  have hor : a * 256 ||| b = a * 256 + b := by
    have := Nat.two_pow_add_eq_or_of_lt (i := 8) hy a
    rw [show (2 : Nat) ^ 8 = 256 from rfl, Nat.mul_comm] at this
    exact this.symm
  have h2 : ∀ m : Nat, BitVec.ofInt 64 (m : Int) = BitVec.ofNat 64 m := fun m => by simp
  rw [e, h2, h2, BitVec.toNat_or, BitVec.toNat_ofNat, BitVec.toNat_ofNat, Nat.mod_eq_of_lt (by omega), Nat.mod_eq_of_lt (by omega), hor]
  exact IntWalk.i64_in _ (by omega)
theorem Sl.sub {w : World} {B n b off : Nat} {cs : List Value} (h : Sl w B 1 (some ⟨b, off, none⟩) n cs) (k m : Nat) (hk : k + m ≤ n) : Sl w B 1 (some ⟨b, off + k, none⟩) m ((cs.drop k).take m) := by
  refine ⟨by rw [List.length_take, List.length_drop, h.1]; omega, fun hm => ?_⟩
  obtain ⟨b', off', e, hb, hc⟩ := h.2 (by omega)
  injection e with e
  injection e with e1 e2
  subst e1 e2
  refine ⟨_, _, rfl, hb, fun j u hu => ?_⟩
  rw [Nat.add_assoc]
  refine hc _ u ?_
  rw [List.getElem?_take] at hu
  split at hu
  · rw [← hu, List.getElem?_drop]
  · cases hu

theorem rd_slice {e : TypeId} {w : World} {v : Value} {r : List UInt8} {N : Nat} (h : Rd e w v (bts r)) (hl : r.length = N) : ∃ A c, v = .slice A N c ∧ N ≤ c ∧ c ≤ maxLen ∧ Rd e w (.slice A N c) (bts r) := by
  have h' := h
  obtain ⟨A, c, rfl, h1, h2, _⟩ := h
  rw [bts_len, hl] at h1 h'
  exact ⟨A, c, by rw [bts_len, hl], h1, h2, h'⟩
theorem yq {e : Ending} {P Q : Prop} (h : (e = .returned (.bool true) ∧ P) ∨ (e = .returned (.bool false) ∧ Q)) : ∃ b, e = .returned (.bool b) ∧ ((b = true ∧ P) ∨ (b = false ∧ Q)) := by
  rcases h with ⟨rfl, h⟩ | ⟨rfl, h⟩
  · exact ⟨true, rfl, .inl ⟨rfl, h⟩⟩
  · exact ⟨false, rfl, .inr ⟨rfl, h⟩⟩

def dat (p : Part) : List UInt8 := p.2.2
def lenAt (wr : World) (bx : Nat) : Nat := match wr.cell? ⟨bx, 0, none⟩ with
  | some (.slice _ n _) => n
  | _ => 0
theorem lenAt_bk {wr : World} {bx : Nat} {t : TypeId} {A : Option Addr} {n c : Nat} (h : Bk wr bx t #[.slice A n c]) : lenAt wr bx = n := by
  unfold lenAt
  rw [h.cell 0]
  rfl
def FrInv (J : List Part → World → Prop) (n₀ bx N : Nat) (b : List UInt8) (wr : World) : Prop :=
  ∃ (pre : List Part) (A : Option Addr) (c : Nat) (rem : List UInt8), J pre wr ∧ Bk wr bx 22 #[.slice A rem.length c] ∧ Sl wr n₀ 1 A rem.length (bts rem) ∧ rem.length ≤ c ∧ c ≤ maxLen ∧
    pre.map dat ++ scanW ckW rem = scanW ckW b ∧ Roots wr ∧ N ≤ wr.heap.size

/-- What the iterator writes: its own box. -/
def FX (bx : Nat) (k : Nat) (o : Obj) : Prop := k = bx ∧ ∃ c f, o = .cells c 22 f
theorem FrInv.next {J : List Part → World → Prop} {n₀ bx N k ab ao c : Nat} {b rem : List UInt8} {pre : List Part} {A5 : Option Addr} {w4 : World} (hJ : Stays (FX bx) J) (hj4 : J pre w4) (hb4 : Bk w4 bx 22 #[.slice (some ⟨ab, ao, none⟩) rem.length c])
    (hs : Sl w4 n₀ 1 (some ⟨ab, ao, none⟩) rem.length (bts rem)) (hk : k ≤ rem.length) (hc1 : rem.length ≤ c) (hc2 : c ≤ maxLen) (hp : pre.map dat ++ scanW ckW (rem.drop k) = scanW ckW b) (hr : Roots w4) (h0 : 0 < n₀) (hN : N ≤ w4.heap.size) (hbn : n₀ ≤ bx)
    (hA5 : (c = k ∧ A5 = some ⟨ab, ao, none⟩) ∨ A5 = some ⟨ab, ao + k, none⟩) (L C : Nat) (hL : L = rem.length - k) (hC : C = c - k) :
    FrInv J n₀ bx N b (w4.setCell ⟨bx, 0, none⟩ (.slice A5 L C)) ∧ lenAt (w4.setCell ⟨bx, 0, none⟩ (.slice A5 L C)) bx = rem.length - k := by
  subst hL hC
  have hm := Moves.setCell (X := FX bx) w4 ⟨bx, 0, none⟩ (.slice A5 (rem.length - k) (c - k)) (fun o ho => by rw [show w4.heap[bx]? = _ from hb4] at ho; cases ho; exact ⟨rfl, _, _, rfl⟩)
  have hB5 : Bk (w4.setCell ⟨bx, 0, none⟩ (.slice A5 (rem.length - k) (c - k))) bx 22 #[.slice A5 (rem.length - k) (c - k)] := by
    have := hb4.set_ 0 (.slice A5 (rem.length - k) (c - k))
    simpa using this
  have hl : (rem.drop k).length = rem.length - k := List.length_drop
  refine ⟨⟨pre, A5, c - k, rem.drop k, hJ _ _ _ hj4 hm, by rw [hl]; exact hB5, ?_, by rw [hl]; omega, by unfold maxLen at hc2 ⊢; omega, hp, ?_, by rw [World.size_setCell]; exact hN⟩, lenAt_bk hB5⟩
  · rw [hl]
    rcases Nat.eq_zero_or_pos (rem.length - k) with h0 | h0
    · have : rem.drop k = [] := List.eq_nil_of_length_eq_zero (by rw [hl]; exact h0)
      rw [h0, this]
      exact Sl.nil _ _ _ _
    · rcases hA5 with ⟨h, _⟩ | h
      · omega
      · subst h
        have h1 := hs.sub k (rem.length - k) (by omega)
        rw [bts_drop, bts_take, List.take_of_length_le (by rw [hl]; exact Nat.le_refl _)] at h1
        exact h1.moves hm (fun k _ e => by have := e.1; omega)
  · intro j v hj
    exact hm.cell (hr j v hj) (fun _ _ e => by have := e.1; simp only at this; omega)
def FrEnd (J : List Part → World → Prop) (pre : List Part) (b : List UInt8) (wr : World) : Prop := pre.map dat = scanW ckW b ∧ J pre wr

set_option maxRecDepth 100000 in
set_option maxHeartbeats 4000000 in
theorem frames_seq (n n₀ bx c0 : Nat) (A0 : Option Addr) (b : List UInt8) (w : World) (hn₀ : n₀ ≤ w.heap.size) (hbx : Bk w bx 22 #[.slice A0 b.length c0]) (hbx0 : n₀ ≤ bx) (hc1 : b.length ≤ c0) (hc2 : c0 ≤ maxLen)
    (hA : Sl w n₀ 1 A0 b.length (bts b)) (hr : Roots w) (h0 : 0 < n₀) :
    SeqY n Tryd.prog 33 #[.pointer (some ⟨bx, 0, none⟩)] (fun p => #[slv p]) (FX bx) (KeepX n₀ bx) (fun p W => Rd 5 W (slv p) (bts p.2.2)) (fun xs => xs.map dat = scanW ckW b) (fun pre => pre.map dat <+: scanW ckW b) (fun _ => True) w := by
  intro L J Jx W hm hL1 hL2 hJ hJx hBd hY h0J
  have hI : FrInv J n₀ bx w.heap.size b W := ⟨[], A0, c0, b, h0J, hm.bk hbx (fun h => h), hA.moves hm (fun _ _ h => h.elim), hc1, hc2, by simp, fun j v hj => hm.cell (hr j v hj) (fun _ _ h => h), hm.size⟩
  have HI := Lib.hid hI
  have HJ := Lib.hid hJ
  have HJX := Lib.hid hJx
  have HY := Lib.hid hY
  clear hI hJ hJx hY h0J hbx hA hr hBd hm
  refine callsIn_of_wp Tryd.func33 rfl trivial ?_ rfl
  simp only [Tryd.ntmps33, List.size_toArray, List.length_cons, List.length_nil, Nat.reduceAdd, Nat.reduceSub, Array.replicate_succ, Array.replicate_zero, List.push_toArray, List.append_toArray, List.nil_append, List.cons_append]
  gi_wp2_with fail
  gi_loopw [] (fun wr => FrInv J n₀ bx w.heap.size b wr) (fun wr => lenAt wr bx)
  case atStart => exact HI.out
  case round =>
    obtain ⟨pre, A, c, rem, hj, hb, hs, hc1, hc2, hpr, hrt, hsz⟩ := hrel
    clear HI
    have hlen := lenAt_bk hb
    have hcb : wr.cell? ⟨bx, 0, none⟩ = some (.slice A rem.length c) := hb.cell 0
    have HJP := Lib.hid hj
    have HB := Lib.hid hb
    have HS := Lib.hid hs
    have HP := Lib.hid hpr
    have HRT := Lib.hid hrt
    have HLEN := Lib.hid hlen
    unfold maxLen at hc2
    clear hj hb hs hpr hrt hlen
    by_cases h6 : 6 ≤ rem.length
    · have e6 : decide (6 ≤ (rem.length : Int)) = true := by simp; omega
      obtain ⟨x0, hx0⟩ : ∃ x, rem[0]? = some x := ⟨_, List.getElem?_eq_getElem (by omega)⟩
      obtain ⟨x1, hx1⟩ : ∃ x, rem[1]? = some x := ⟨_, List.getElem?_eq_getElem (by omega)⟩
      obtain ⟨ab, ao, rfl, hab, hcc⟩ := HS.out.at_ (by omega)
      have hc0 : wr.cell? ⟨ab, ao, none⟩ = some (.int .u8 (x0.toNat : Int)) := hcc 0 _ (bts_at hx0)
      have hc1' := hcc 1 _ (bts_at hx1)
      have k0 : (0 : Int) < (rem.length : Int) := by omega
      have k1 : (1 : Int) < (rem.length : Int) := by omega
      have HX := Lib.hid (And.intro hx0 hx1)
      clear hx0 hx1 hcc
      gi_wp2_with fail
      gi_quiet (fail)
      trace_state
      have hN := or_w x0 x1
      obtain ⟨N, hNe⟩ : ∃ N, x0.toNat * 256 + x1.toNat = N := ⟨_, rfl⟩
      rw [hNe] at hN
      rw [hN]
      have HN : Hid (lenW rem = N) := Lib.hid (by rw [← hNe]; unfold lenW; rw [List.getD_eq_getElem?_getD, List.getD_eq_getElem?_getD, HX.out.1, HX.out.2]; rfl)
      clear hN hNe
      have hmv := Moves.drewN (FX bx) wr nq
      have HB1 := Lib.hid (HB.out.drewN nq)
      have HJ1 := Lib.hid (HJ.out _ _ _ HJP.out hmv)
      have HS1 : Hid (Sl (wr.drewN nq) n₀ 1 (some ⟨ab, ao, none⟩) rem.length (bts rem)) := Lib.hid HS.out
      have HR1 : Hid (Roots (wr.drewN nq)) := Lib.hid HRT.out
      have hsz1 : w.heap.size ≤ (wr.drewN nq).heap.size := hsz
      obtain ⟨wq, hwq⟩ : ∃ x, wr.drewN nq = x := ⟨_, rfl⟩
      rw [hwq] at HB1 HJ1 HS1 HR1 hsz1 ⊢
      clear hwq hmv HB HJP HS HRT hcb hc0 hc1' hsz
      have hcb : wq.cell? ⟨bx, 0, none⟩ = some (.slice (some ⟨ab, ao, none⟩) rem.length c) := HB1.out.cell 0
      have hnone : scan1 ckW rem = none → FrEnd J pre b wq := fun h => ⟨by have := HP.out; rw [scanW_none h, List.append_nil] at this; exact this, HJ1.out⟩
      have HE := Lib.hid hnone
      clear hnone
      have s6 : IntKind.i64.wrap ((rem.length : Int) - 6) = (rem.length : Int) - 6 := IntWalk.i64_in _ (by omega)
      by_cases n0 : N = 0
      · have e0 : ((N : Int) == 0) = true := by simp [n0]
        gi_wp2_with fail
        refine bodyPost_ret (results_none rfl _ _ _) rfl ?_
        exact ⟨⟨_, rfl⟩, .inl ⟨_, HE.out (by rw [scan1, HN.out, if_neg (by omega)])⟩⟩
      have e0 : ((N : Int) == 0) = false := by simp [n0]
      by_cases n1 : 4096 < N
      · have e1 : decide ((N : Int) > 4096) = true := by simp; omega
        gi_wp2_with fail
        refine bodyPost_ret (results_none rfl _ _ _) rfl ?_
        exact ⟨⟨_, rfl⟩, .inl ⟨_, HE.out (by rw [scan1, HN.out, if_neg (by omega)])⟩⟩
      have e1 : decide ((N : Int) > 4096) = false := by simp; omega
      have e1' : decide (4096 < (N : Int)) = false := by simp; omega
      by_cases n2 : rem.length < N + 6
      · have e2 : decide ((rem.length : Int) - 6 < (N : Int)) = true := by simp; omega
        gi_wp2_with fail
        refine bodyPost_ret (results_none rfl _ _ _) rfl ?_
        exact ⟨⟨_, rfl⟩, .inl ⟨_, HE.out (by rw [scan1, HN.out, if_neg (by omega)])⟩⟩
      have e2 : decide ((rem.length : Int) - 6 < (N : Int)) = false := by simp; omega
      have hNl : N + 6 ≤ rem.length := by omega
      have j1 : (6 : Int) + (N : Int) ≤ (c : Int) := by omega
      gi_wp2_with fail
      rw [show 6 + N - 6 = N from by omega]
      have hrl : (recW rem).length = N := by unfold recW; rw [HN.out, List.length_take, List.length_drop]; omega
      have HRC := Lib.hid (show (rem.drop 6).take N = recW rem from by unfold recW; rw [HN.out])
      obtain ⟨r, hre⟩ : ∃ r, recW rem = r := ⟨_, rfl⟩
      have HRE := Lib.hid hre
      rw [hre] at hrl HRC
      have hrs : Sl wq n₀ 1 (some ⟨ab, ao + 6, none⟩) r.length (bts r) := by
        have := HS1.out.sub 6 N (by omega)
        rw [bts_drop, bts_take, HRC.out] at this
        rw [hrl]
        exact this
      have hn1 : n₀ ≤ wq.heap.size := Nat.le_trans hn₀ hsz1
      have hgood : ∀ W, Below wq.heap.size wq W → Part.good W (some ⟨ab, ao + 6, none⟩, c - 6, r) := fun W hW => ⟨by simp only; omega, by simp only; unfold maxLen; omega, (hrs.below (hW.mono hn1)).more (Nat.le_trans hn1 hW.size)⟩
      have HF := Lib.hid (fun (W : World) (hW : Below wq.heap.size wq W) => frame_any (some ⟨ab, ao + 6, none⟩) r (c - 6) W (HR1.out.below hW (Nat.lt_of_lt_of_le h0 hn1)) (Nat.lt_of_lt_of_le h0 (Nat.le_trans hn1 hW.size)) (by omega) (hgood W hW))
      rw [hrl] at HF
      obtain ⟨bv, hbv⟩ : ∃ bv, decide (rem.take (6 + N) = frameF ckW r) = bv := ⟨_, rfl⟩
      have HPX := Lib.hid (fun (W : World) (hW : Below wq.heap.size wq W) (Af : Option Addr) (cf : Nat) (hf : Sl W W.heap.size 1 Af (6 + N) (bts (frameF ckW r))) => prefix_any (some ⟨ab, ao, none⟩) Af rem (frameF ckW r) rem.length (6 + N) c cf rfl (by rw [frameF_len ckW_len, hrl]) (by omega) (by omega) W ((HS1.out.below (hW.mono hn1)).more (Nat.le_trans hn1 hW.size)) hf)
      rw [hbv] at HPX
      have HBV := Lib.hid hbv
      have hd1 : Below wq.heap.size wq wq.drew := (Below.refl _ _).drew
      have HG := Lib.hid hgood
      clear hre hrs hgood hbv
      cases bv with
      | false =>
        first | gi_region_with (first
          | (gi_at_call 28; (with_reducible refine (callsIn_wide.2 (HF.out _ hd1)).mono ?_); rintro e w1 ⟨vf, rfl, hof, hbf⟩; have hb1 := hd1.trans (hbf.mono hd1.size); obtain ⟨Af, cf, rfl, hcf1, hcf2, hsf⟩ := own_sl hof; have hcb1 := (hb1.cell (p := ⟨bx, 0, none⟩) HB1.out.lt).trans hcb)
          | (gi_at_call 34; (with_reducible refine (callsIn_wide.2 (HPX.out _ hb1 Af cf hsf)).mono ?_); rintro e w2 ⟨rfl, hb2⟩)) | fail
        all_goals
          gi_wp2_with fail
          refine bodyPost_ret (results_none rfl _ _ _) rfl ?_
          have hn : scan1 ckW rem = none := by
            unfold scan1
            rw [HN.out, HRE.out, if_neg (fun h => absurd h.2.2.2.2.symm (by rw [Nat.add_comm N 6]; exact of_decide_eq_false HBV.out))]
          exact ⟨⟨_, rfl⟩, .inl ⟨_, (HE.out hn).1, HJ.out _ _ _ (HE.out hn).2 (Moves.below _ (hb1.trans (hb2.mono hb1.size)) (Nat.le_refl _))⟩⟩
      | true =>
        have hsome : scan1 ckW rem = some r := by
          unfold scan1
          rw [HN.out, HRE.out, if_pos]
          exact ⟨h6, by omega, by omega, hNl, by rw [Nat.add_comm N 6]; exact (of_decide_eq_true HBV.out).symm⟩
        have hpp := HP.out
        rw [scanW_some hsome, hrl] at hpp
        have HPP := Lib.hid hpp
        have HC := Lib.hid (fun (W : World) (hW : Below wq.heap.size wq W) => clone_any (some ⟨ab, ao + 6, none⟩) r (c - 6) W (by omega) (HG.out W hW).2.2)
        have HY2 := Lib.hid (fun (W : World) (hW : Below wq.heap.size wq W) (A' : Option Addr) (c' : Nat) (h : Rd 5 W (.slice A' (bts r).length c') (bts r)) => HY.out pre (A', c', r) W (HJ.out _ _ _ HJ1.out (Moves.below _ hW (Nat.le_refl _))) ⟨scanW ckW (rem.drop (6 + N)), by rw [List.map_append, ← hpp]; simp [dat]⟩ (by rw [bts_len] at h; exact h))
        simp only [slv] at HY2
        rw [hrl] at HC HY2
        rw [bts_len, hrl] at HY2
        clear hpp hsome HE HBV
        first | gi_region_with (first
          | (gi_at_call 28; (with_reducible refine (callsIn_wide.2 (HF.out _ hd1)).mono ?_); rintro e w1 ⟨vf, rfl, hof, hbf⟩; have hb1 := hd1.trans (hbf.mono hd1.size); obtain ⟨Af, cf, rfl, hcf1, hcf2, hsf⟩ := own_sl hof; have hcb1 := (hb1.cell (p := ⟨bx, 0, none⟩) HB1.out.lt).trans hcb)
          | (gi_at_call 34; (with_reducible refine (callsIn_wide.2 (HPX.out _ hb1 Af cf hsf)).mono ?_); rintro e w2 ⟨rfl, hb2⟩; have hb2' := step_b hb1 hb2)
          | (gi_at_call 29; (with_reducible refine (callsIn_wide.2 (HC.out _ hb2')).mono ?_); rintro e w3 ⟨v3, rfl, hr3, hb3, _⟩; have hb3' := step_b hb2' hb3; obtain ⟨A', c', rfl, hc31, hc32, hr3'⟩ := rd_slice hr3 hrl; obtain ⟨fn, tmps, asg, bdy, hy, hR⟩ := HY2.out w3 hb3' A' c' hr3')
          | ((with_reducible refine hR.mono ?_); intro e w4 hd4; obtain ⟨bb, rfl, hq4⟩ := yq hd4)) | fail
        all_goals
          have hbk3 := HB1.out.below hb3' HB1.out.lt
          rcases hq4 with ⟨rfl, hj4, hk4⟩ | ⟨rfl, hx4⟩
          · have hbk4 := hk4.bk hbk3
            have hs4 := (HS1.out.below (hb3'.mono hn1)).keepX hk4
            have hr4 := (HR1.out.below hb3' (Nat.lt_of_lt_of_le h0 hn1)).keepX hk4 h0
            have hz4 : w.heap.size ≤ w4.heap.size := Nat.le_trans hsz1 (Nat.le_trans hb3'.size hk4.1)
            have hcb4 : w4.cell? ⟨bx, 0, none⟩ = some (.slice (some ⟨ab, ao, none⟩) rem.length c) := hbk4.cell 0
            have hfb4 : w4.frozen? ⟨bx, 0, none⟩ = false := hbk4.frozen 0
            have HNX := Lib.hid (fun (A5 : Option Addr) (h : (c = 6 + N ∧ A5 = some ⟨ab, ao, none⟩) ∨ A5 = some ⟨ab, ao + (6 + N), none⟩) (L C : Nat) (hL : L = rem.length - (6 + N)) (hC : C = c - (6 + N)) => FrInv.next (N := w.heap.size) (b := b) HJ.out hj4 hbk4 hs4 (by omega) hc1 (by unfold maxLen; omega) (by rw [List.map_append, List.append_assoc]; exact HPP.out) hr4 h0 hz4 hbx0 h L C hL hC)
            clear hbk4 hbk3 hs4 hr4 hj4 hk4 hR hy
            by_cases hcn : c = 6 + N
            · have j2 : ¬ c ≠ 6 + N := fun h => h hcn
              gi_wp2_with fail
              have hx := HNX.out (some ⟨ab, ao, none⟩) (.inl ⟨hcn, rfl⟩) (rem.length - (6 + N)) 0 rfl (by omega)
              exact ⟨hx.1, by rw [hx.2, HLEN.out]; omega⟩
            · gi_wp2_with fail
              have hx := HNX.out _ (.inr rfl) _ _ rfl rfl
              exact ⟨hx.1, by rw [hx.2, HLEN.out]; omega⟩
          · gi_wp2_with fail
            refine bodyPost_ret (results_none rfl _ _ _) rfl ?_
            exact ⟨⟨_, rfl⟩, .inr ⟨_, ⟨scanW ckW (rem.drop (6 + N)), by rw [List.map_append, ← HPP.out]; simp [dat]⟩, hx4⟩⟩
    · have e6 : decide (6 ≤ (rem.length : Int)) = false := by simp; omega
      have h7 : rem.length < 6 := by omega
      clear h6
      gi_wp2_with fail
      refine bodyPost_end (results_none rfl _ _ _) rfl ?_
      exact ⟨⟨_, rfl⟩, .inl ⟨pre, by have := HP.out; rw [scanW_none (scan1_none_short (by omega)), List.append_nil] at this; exact this, HJP.out⟩⟩
end Go.Proofs.YtpmmojjffjpmbaaDoor
