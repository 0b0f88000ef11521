/- What this text proves: the contracts of wal's frame and of bytes.HasPrefix. The conditions are how the bytes lie in memory, and that the package's table is as its text lays it. -/
import Derived.Test.YtpmmojjffjpmbaaDoorBlakeJoin
import Derived.Test.YtpmmojjffjpmbaaDoorWalPure
import Derived.Test.YtpmmojjffjpmbaaDoorConv
import Derived.Test.YtpmmojjffjpmbaaDoorSeqY
namespace Go.Proofs.YtpmmojjffjpmbaaDoor
open Go.RowKit
set_option linter.unusedVariables false
set_option linter.unusedSimpArgs false

/-- A record's check. -/
def ckW (r : List UInt8) : List UInt8 := (digF (4 :: (hdrW r ++ r))).take 4
theorem ckW_len (r : List UInt8) : (ckW r).length = 4 := by simp [ckW, digF_len]
theorem Part.good.below {w w' : World} {p : Part} (h : p.good w) (hb : Below w.heap.size w w') : p.good w' := ⟨h.1, h.2.1, (h.2.2.below hb).more hb.size⟩
theorem built_sl {w : World} {cs : List Value} {n : Nat} (h : cs.length = n) : Sl (w.alloc (.cells cs.toArray 22)) (w.alloc (.cells cs.toArray 22)).heap.size 1 (some ⟨w.heap.size, 0, none⟩) n cs :=
  ⟨by rw [h]; omega, fun _ => ⟨w.heap.size, 0, rfl, by simp, fun j u hu => by rw [Nat.zero_add, (Bk.new w 22 cs.toArray).cell, List.getElem?_toArray]; exact hu⟩⟩
theorem own_lit (w : World) (cs : Array Value) (n : Nat) (hn : cs.size = n) (hm : n ≤ maxLen) : (w.alloc (.cells cs 5)).ownsRow w.heap.size 5 1 (.slice (some ⟨w.heap.size, 0, none⟩) n n) n cs.toList :=
  ⟨by simp [hn], .inr ⟨w.heap.size, n, cs, rfl, Nat.le_refl _, heap_alloc_new w _, Nat.le_refl _, hm, by omega, by rw [Nat.mul_one, ← hn, ← Array.length_toList, List.take_length]⟩⟩
theorem hdr_cells (r : List UInt8) (h : r.length ≤ 4096) : bts (hdrW r) = [.int .u8 ((r.length : Int) / 256), .int .u8 ((r.length : Int) % 256)] := by
  have e1 : (UInt8.ofNat (r.length / 256)).toNat = r.length / 256 := by rw [u8w_of]; omega
  have e2 : (UInt8.ofNat r.length).toNat = r.length % 256 := u8w_of _
  show [Value.int .u8 ((UInt8.ofNat (r.length / 256)).toNat : Int), Value.int .u8 ((UInt8.ofNat r.length).toNat : Int)] = _
  have e3 : ((r.length / 256 : Nat) : Int) = (r.length : Int) / 256 := by omega
  have e4 : ((r.length % 256 : Nat) : Int) = (r.length : Int) % 256 := by omega
  rw [e1, e2, e3, e4]

attribute [local irreducible] digF
set_option maxRecDepth 100000 in
set_option maxHeartbeats 2000000 in
theorem frame_any (A : Option Addr) (r : List UInt8) (c : Nat) (w : World) (hr : Roots w) (h0 : 0 < w.heap.size) (hl : r.length ≤ 4096) (hg : Part.good w (A, c, r)) :
    Calls Tryd.prog 28 #[.slice A r.length c] w fun e w' => ∃ v, e = .returned v ∧ w'.ownsRow w.heap.size 5 1 v (6 + r.length) (bts (frameF ckW r)) ∧ Below w.heap.size w w' := by
  obtain ⟨i0, hi, hz0, hz1, hz2⟩ := info_parts u8_info
  have HR := Lib.hid hr
  have HG := Lib.hid hg
  have HD := Lib.hid (hdr_cells r hl)
  clear hr hg
  go_enter Tryd.func28, Tryd.ntmps28
  go_upto_region 2 with fail
  rw [← HD.out]
  have O1 := Lib.hid (own_lit w (bts (hdrW r)).toArray 2 (by simp [bts, hdrW]) (by unfold maxLen; omega))
  have L1 : Hid (Below w.heap.size w (w.alloc (.cells (bts (hdrW r)).toArray 5))) := Lib.hid (by (first | assumption | (repeat (first | exact Below.refl _ _ | assumption | apply Below.drew | apply below_drewN | (refine Below.setCell ?_ (by (try simp) <;> omega) _) | (refine Below.alloc ?_ (by (try simp) <;> omega) _)))))
  have z1 : (w.alloc (.cells (bts (hdrW r)).toArray 5)).heap.size = w.heap.size + 1 := by simp
  obtain ⟨g1, hg1⟩ : ∃ x, w.heap.size = x := ⟨_, rfl⟩
  have hgw : w.heap.size ≤ g1 := Nat.le_of_eq hg1
  obtain ⟨w1, hw1⟩ : ∃ x, w.alloc (.cells (bts (hdrW r)).toArray 5) = x := ⟨_, rfl⟩
  rw [hw1] at O1 L1 z1 ⊢
  rw [hg1] at O1 ⊢
  clear hw1
  go_wp2_with fail
  have L2 : Hid (Below w1.heap.size w1 (w1.alloc (.cells #[.slice (some ⟨g1, 0, none⟩) 2 2, .slice A r.length c] 22))) := Lib.hid (by (first | assumption | (repeat (first | exact Below.refl _ _ | assumption | apply Below.drew | apply below_drewN | (refine Below.setCell ?_ (by (try simp) <;> omega) _) | (refine Below.alloc ?_ (by (try simp) <;> omega) _)))))
  have S2 := Lib.hid (built_sl (w := w1) (cs := [.slice (some ⟨g1, 0, none⟩) 2 2, .slice A r.length c]) (n := 2) rfl)
  rw [z1] at S2
  have z2 : (w1.alloc (.cells #[.slice (some ⟨g1, 0, none⟩) 2 2, .slice A r.length c] 22)).heap.size = g1 + 2 := by simp; omega
  obtain ⟨w2, hw2⟩ : ∃ W, w1.alloc (.cells #[.slice (some ⟨g1, 0, none⟩) 2 2, .slice A r.length c] 22) = W := ⟨_, rfl⟩
  rw [hw2] at L2 S2 z2 ⊢
  rw [hg1] at S2 z1
  have O2 := Lib.hid (own_bl O1.out L2.out)
  have B2 : Hid (Below w.heap.size w w2) := Lib.hid (L1.out.trans (L2.out.mono L1.out.size))
  clear hw2 O1 L1 L2
  have hjn := join_any 4 (some ⟨g1 + 1, 0, none⟩) [(some ⟨g1, 0, none⟩, 2, hdrW r), (A, c, r)] 2 w2 (HR.out.below B2.out h0) (Nat.lt_of_lt_of_le h0 B2.out.size) (by unfold maxLen; simp) (by show Sl w2 w2.heap.size 1 _ 2 _; exact S2.out) (fun p hp => by
    rcases List.mem_cons.1 hp with rfl | hp
    · exact ⟨by simp [hdrW], by unfold maxLen; simp, by simpa [hdrW] using own_sl_at O2.out⟩
    · rcases List.mem_cons.1 hp with rfl | hp
      · exact HG.out.below B2.out
      · cases hp)
  have hjn' : Calls Tryd.prog 36 #[.int .u8 4, .slice (some ⟨g1 + 1, 0, none⟩) 2 2] w2 fun e w' => e = .returned (.agg (bts (digF (4 :: (hdrW r ++ r)))).toArray) ∧ Below w2.heap.size w2 w' := by
    have e : joinF 4 [(some ⟨g1, 0, none⟩, 2, hdrW r), (A, c, r)] = digF (4 :: (hdrW r ++ r)) := by simp [joinF, catF]
    rw [e] at hjn
    exact hjn
  with_reducible refine hjn'.mono ?_
  rintro e w3 ⟨rfl, hb3⟩
  have O3 := Lib.hid (own_bl O2.out hb3)
  have B3 : Hid (Below w.heap.size w w3) := Lib.hid (B2.out.trans (hb3.mono B2.out.size))
  have z3 : g1 + 2 ≤ w3.heap.size := by have := hb3.size; omega
  obtain ⟨J, hJ⟩ : ∃ J, digF (4 :: (hdrW r ++ r)) = J := ⟨_, rfl⟩
  have hJl : J.length = 32 := by rw [← hJ, digF_len]
  have hck : ckW r = J.take 4 := by rw [← hJ]; rfl
  have HCK := Lib.hid hck
  rw [hJ]
  have hbl : (bts J).length = 32 := by rw [bts_len, hJl]
  have h0l : (bts hash0).length = 32 := by rw [bts_len, hash0_len]
  have hzh := zero_hash
  have O4 := Lib.hid (Bk.new w3 66 (bts hash0).toArray)
  have L4 : Hid (Below w3.heap.size w3 (w3.alloc (.cells (bts hash0).toArray 66))) := Lib.hid (by (first | assumption | (repeat (first | exact Below.refl _ _ | assumption | apply Below.drew | apply below_drewN | (refine Below.setCell ?_ (by (try simp) <;> omega) _) | (refine Below.alloc ?_ (by (try simp) <;> omega) _)))))
  clear hb3 hjn hjn' S2 O2 B2 hJ hck
  go_upto_region 3 with (refine wpList_puts (by rfl) 66 _ _ (by with_reducible rfl) w3.heap.size 0 (by rfl) (bts J) (by rfl) 66 (bts hash0) (by exact O4.out) 32 hbl (by rw [h0l]; omega) hi_hash bts_all ?_; intro w9 hb_ hm_ hz_; rw [put_hash0 _ hJl] at hb_; have HM9 := Lib.hid hm_; have HR9 := Lib.hid hb_; clear hb_ hm_ hz_)
  obtain ⟨gh, hgh⟩ : ∃ x, w3.heap.size = x := ⟨_, rfl⟩
  rw [hgh] at HR9 HM9 ⊢
  have L9 : Hid (Below w3.heap.size w3 w9) := Lib.hid (L4.out.trans (HM9.out.to_below L4.out.size (fun k o h => by omega)))
  have O9 := Lib.hid (own_bl O3.out L9.out)
  have B9 : Hid (Below w.heap.size w w9) := Lib.hid (B3.out.trans (L9.out.mono B3.out.size))
  have z9 : g1 ≤ w9.heap.size := by have := L9.out.size; omega
  have hz9 : gh < w9.heap.size := HR9.out.lt
  have H9 : Hid (Sl w9 w9.heap.size 1 (some ⟨gh, 0, none⟩) 4 (bts (ckW r))) := Lib.hid ⟨by rw [bts_len, ckW_len], fun _ => ⟨gh, 0, rfl, hz9, fun j u hu => by
    rw [Nat.zero_add, HR9.out.cell, List.getElem?_toArray]
    rw [HCK.out, ← bts_take, List.getElem?_take] at hu
    split at hu
    · exact hu
    · cases hu⟩⟩
  have G9 := Lib.hid (HG.out.below B9.out)
  clear O3 O4 L4 HM9 HR9 B3 L9 z3 hgh
  have hrow : Hid (bts (hdrW r) ++ bts (ckW r) ++ bts r = bts (frameF ckW r)) := Lib.hid (by simp [frameF, bts_app])
  go_wp2_with (first
    | (refine wpList_append_sl w9 (by rfl) _ _ 22 (by rfl) g1 5 i0 _ 1 1 Tryd.underlying22 hi hz0 hz1 hz2 rfl (by omega) (.slice (some ⟨g1, 0, none⟩) 2 2) 2 (bts (hdrW r)) (by rfl) O9.out (some ⟨gh, 0, none⟩) 4 32 (bts (ckW r)) (by rfl) H9.out bts_one (by unfold maxLen; omega) (by omega) z9 ?_; intro v10 w10 ho_ hg_ hv_; have P10 := Lib.hid ho_; have L10 : Hid (Below g1 w9 w10) := Lib.hid ((Below.refl g1 w9).grown hg_ z9 (fun k hk => (own_cells O9.out hk).1)); clear ho_ hg_ hv_)
    | (refine wpList_append_sl w10 (by rfl) _ _ 22 (by rfl) g1 5 i0 _ 1 1 Tryd.underlying22 hi hz0 hz1 hz2 rfl (by omega) v10 (2 + 4) (bts (hdrW r) ++ bts (ckW r)) (by rfl) P10.out A r.length c (bts r) (by rfl) ((HG.out.2.2.below (B9.out.trans (L10.out.mono (by omega)))).more (Nat.le_trans B9.out.size L10.out.size)) bts_one (by unfold maxLen; omega) (by omega) (Nat.le_trans z9 L10.out.size) ?_; intro v11 w11 ho_ hg_ hv_; have P11 := Lib.hid ho_; have L11 : Hid (Below g1 w9 w11) := Lib.hid (L10.out.grown hg_ (Nat.le_trans z9 L10.out.size) (fun k hk => (own_cells P10.out hk).1)); clear ho_ hg_ hv_))
  go_ret
  refine ⟨v11, rfl, ?_, B9.out.trans (L11.out.mono (by omega))⟩
  rw [hg1, ← hrow.out]
  exact P11.out
end Go.Proofs.YtpmmojjffjpmbaaDoor
