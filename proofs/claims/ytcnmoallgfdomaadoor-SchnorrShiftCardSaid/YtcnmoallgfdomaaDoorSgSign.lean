/- What this text proves: the contract of Sign. The conditions are how the message lies in memory, that the number fits, and that the package's table is as its text lays it. -/
import Derived.Test.YtcnmoallgfdomaaDoorSgVerify
namespace Go.Proofs.YtcnmoallgfdomaaDoor
open Go.RowKit
set_option linter.unusedVariables false
set_option linter.unusedSimpArgs false

def nonceK (s : Nat) (m : List UInt8) : Nat := max (nonce s m) 1
def sigR (s : Nat) (m : List UInt8) : Nat := if 1 ≤ s ∧ s < QQ then 37 ^ nonceK s m % PP else 0
def sigS (s : Nat) (m : List UInt8) : Nat := if 1 ≤ s ∧ s < QQ then (nonceK s m + chal (37 ^ nonceK s m % PP) (37 ^ s % PP) m * s % QQ) % QQ else 0
theorem timesQ (a b : Nat) (w : World) (ha : a < 18446744073709551616) (hb : b < 18446744073709551616) :
    Calls Tryd.prog 15 #[.int .u64 a, .int .u64 b, .int .u64 2305843009213693950] w fun e w' => e = .returned (.int .u64 ((a * b % QQ : Nat) : Int)) ∧ Below w.heap.size w w' := by
  have := times_any a b QQ w ha hb QQ_bd.1 QQ_bd.2.1
  rwa [QQ_int] at this
theorem zero_sig (w : World) : (zeroValue 25).run Tryd.prog w = .ok (.agg #[.int .u64 0, .int .u64 0]) w := by
  have h : (Tryd.prog.info? 25).map (·.zero) = some (some (.agg #[.int .u64 0, .int .u64 0])) := by kernel_rfl
  cases hq : Tryd.prog.info? 25 with
  | none => rw [hq] at h; cases h
  | some i =>
    rw [hq] at h
    have h2 : i.zero = some (.agg #[.int .u64 0, .int .u64 0]) := by simpa using h
    simp [zeroValue, typeInfo, hq, h2, Sem.run_bind]

attribute [local irreducible] digF numN
set_option maxRecDepth 100000 in
set_option maxHeartbeats 4000000 in
theorem sign_any (s : Nat) (A : Option Addr) (m : List UInt8) (c : Nat) (w : World) (hr : Roots w) (h0 : 2 < w.heap.size) (hsn : s < 18446744073709551616) (hg : Part.good w (A, c, m)) :
    Calls Tryd.prog 10 #[.int .u64 s, .slice A m.length c] w fun e w' => e = .returned (.tuple #[.agg #[.int .u64 (sigR s m : Nat), .int .u64 (sigS s m : Nat)], .int .i64 (keyErr s)]) ∧ Below w.heap.size w w' := by
  have HR := Lib.hid hr
  have HG := Lib.hid hg
  clear hr hg
  have hzs := zero_sig
  obtain ⟨RR, hRR⟩ : ∃ x, sigR s m = x := ⟨_, rfl⟩
  obtain ⟨SS, hSS⟩ : ∃ x, sigS s m = x := ⟨_, rfl⟩
  obtain ⟨EE, hEE⟩ : ∃ x, keyErr s = x := ⟨_, rfl⟩
  rw [hRR, hSS, hEE]
  have HRR := Lib.hid hRR
  have HSS := Lib.hid hSS
  have HEE := Lib.hid hEE
  clear hRR hSS hEE
  go_enter Tryd.func10, Tryd.ntmps10
  go_upto_region 1 with fail
  have B1 := Lib.hid (Bk.new w 25 #[.int .u64 0, .int .u64 0])
  have L1 : Hid (Below w.heap.size w (w.alloc (.cells #[.int .u64 0, .int .u64 0] 25))) := Lib.hid (by (first | assumption | (repeat (first | exact Below.refl _ _ | assumption | apply Below.drew | apply below_drewN | (refine Below.setCell ?_ (by (try simp) <;> omega) _) | (refine Below.alloc ?_ (by (try simp) <;> omega) _)))))
  obtain ⟨w1, hw1⟩ : ∃ W, w.alloc (.cells #[.int .u64 0, .int .u64 0] 25) = W := ⟨_, rfl⟩
  rw [hw1] at B1 L1 ⊢
  obtain ⟨gs, hgs⟩ : ∃ x, w.heap.size = x := ⟨_, rfl⟩
  have HGS := Lib.hid hgs
  rw [hgs] at B1 ⊢
  clear hw1 hgs
  by_cases h : 1 ≤ s ∧ s < QQ
  · obtain ⟨k1, k2⟩ := key_yes h
    have K := Lib.hid (key_any s w1 hsn)
    rw [k1, k2] at K
    have he : EE = 0 := by rw [← HEE.out, k2]
    subst he
    have HRv : Hid (RR = 37 ^ nonceK s m % PP) := Lib.hid (by rw [← HRR.out, sigR, if_pos h])
    have HSv : Hid (SS = (nonceK s m + chal (37 ^ nonceK s m % PP) (37 ^ s % PP) m * s % QQ) % QQ) := Lib.hid (by rw [← HSS.out, sigS, if_pos h])
    have HH := Lib.hid h
    obtain ⟨key, hkey⟩ : ∃ x, 37 ^ s % PP = x := ⟨_, rfl⟩
    have hkn : key < 18446744073709551616 := by rw [← hkey]; exact Nat.lt_trans (Nat.mod_lt _ (by decide)) (by decide)
    rw [hkey] at K HSv
    clear h k1 k2 hkey
    go_wp2_with fail
    with_reducible refine K.out.mono ?_
    rintro e w2 ⟨rfl, hb2⟩
    have B2 := Lib.hid (B1.out.below hb2 B1.out.lt)
    have L2 : Hid (Below w.heap.size w w2) := Lib.hid (L1.out.trans (hb2.mono L1.out.size))
    clear hb2
    go_wp2_with fail
    with_reducible refine (word_any s w2 hsn).mono ?_
    rintro e w3 ⟨g1, rfl, hg1, hb3⟩
    have G1 := Lib.hid hg1
    have B3 := Lib.hid (B2.out.below hb3 B2.out.lt)
    have L3 : Hid (Below w.heap.size w w3) := Lib.hid (L2.out.trans (hb3.mono L2.out.size))
    clear hb3 hg1
    go_wp2_with fail
    have hb4_ : Below w3.heap.size w3 (w3.alloc (.cells #[.slice (some ⟨g1, 0, none⟩) 8 8, .slice A m.length c] 23)) := (by (first | assumption | (repeat (first | exact Below.refl _ _ | assumption | apply Below.drew | apply below_drewN | (refine Below.setCell ?_ (by (try simp) <;> omega) _) | (refine Below.alloc ?_ (by (try simp) <;> omega) _)))))
    have S4 := Lib.hid (built_sl (w := w3) (cs := [.slice (some ⟨g1, 0, none⟩) 8 8, .slice A m.length c]) (n := 2) rfl)
    obtain ⟨w4, hw4⟩ : ∃ W, w3.alloc (.cells #[.slice (some ⟨g1, 0, none⟩) 8 8, .slice A m.length c] 23) = W := ⟨_, rfl⟩
    rw [hw4] at hb4_ S4 ⊢
    have B4 := Lib.hid (B3.out.below hb4_ B3.out.lt)
    have L4 : Hid (Below w.heap.size w w4) := Lib.hid (L3.out.trans (hb4_.mono L3.out.size))
    have hjn := join_any 1 (some ⟨w3.heap.size, 0, none⟩) [(some ⟨g1, 0, none⟩, 8, wordB s), (A, c, m)] 2 w4 (HR.out.below L4.out h0) (Nat.lt_of_lt_of_le h0 L4.out.size) (by unfold maxLen; simp) (by show Sl w4 w4.heap.size 1 _ 2 _; simpa only [List.map_cons, List.map_nil, slv, wordB_len] using S4.out) (fun p hp => by
      rcases List.mem_cons.1 hp with rfl | hp
      · exact G1.out.below hb4_
      · rcases List.mem_cons.1 hp with rfl | hp
        · exact HG.out.below L4.out
        · cases hp)
    have hjn' : Calls Tryd.prog 21 #[.int .u8 1, .slice (some ⟨w3.heap.size, 0, none⟩) 2 2] w4 fun e w' => e = .returned (.agg (bts (digF (1 :: (wordB s ++ m)))).toArray) ∧ Below w4.heap.size w4 w' := by
      have e : joinF 1 [(some ⟨g1, 0, none⟩, 8, wordB s), (A, c, m)] = digF (1 :: (wordB s ++ m)) := by simp [joinF, catF]
      rw [e] at hjn
      exact hjn
    with_reducible refine hjn'.mono ?_
    rintro e w5 ⟨rfl, hb5⟩
    have B5 := Lib.hid (B4.out.below hb5 B4.out.lt)
    have L5 : Hid (Below w.heap.size w w5) := Lib.hid (L4.out.trans (hb5.mono L4.out.size))
    clear hb5 hjn hjn' hb4_ S4 hw4 G1 B1 L1 B2 L2 B3 L3 B4 L4
    go_wp2_with fail
    with_reducible refine (number_any _ w5 (digF_len _)).mono ?_
    rintro e w6 ⟨rfl, hb6⟩
    have B6 := Lib.hid (B5.out.below hb6 B5.out.lt)
    have L6 : Hid (Below w.heap.size w w6) := Lib.hid (L5.out.trans (hb6.mono L5.out.size))
    have hNlt : numN (digF (1 :: (wordB s ++ m))) < QQ := numN_lt _
    have hNn : nonce s m = numN (digF (1 :: (wordB s ++ m))) := rfl
    obtain ⟨N, hN⟩ : ∃ x, numN (digF (1 :: (wordB s ++ m))) = x := ⟨_, rfl⟩
    rw [hN] at hNlt hNn ⊢
    have HNn := Lib.hid hNn
    have HNlt := Lib.hid hNlt
    have hNb : N < 2305843009213693950 := hNlt
    clear hb6 hN hNn hNlt B5 L5
    go_upto_region 5 with fail
    obtain ⟨K, hK⟩ : ∃ x, nonceK s m = x := ⟨_, rfl⟩
    have hKe : max (N : Int) 1 = (K : Int) := by rw [← hK, nonceK, HNn.out]; omega
    have hKb : K < 2305843009213693950 := by rw [← hK, nonceK, HNn.out]; omega
    rw [hKe]
    rw [hK] at HRv HSv
    clear hKe hK hNb
    obtain ⟨R, hR⟩ : ∃ x, 37 ^ K % PP = x := ⟨_, rfl⟩
    have hRn : R < 18446744073709551616 := by rw [← hR]; exact Nat.lt_trans (Nat.mod_lt _ (by decide)) (by decide)
    have P7 := Lib.hid (power_at 37 K 37 K rfl rfl w6 (by decide) (by omega))
    rw [hR] at HRv HSv P7
    clear hR
    go_wp2_with fail
    with_reducible refine P7.out.mono ?_
    rintro e w7 ⟨rfl, hb7⟩
    have B7 := Lib.hid (B6.out.below hb7 B6.out.lt)
    have L7 : Hid (Below w.heap.size w w7) := Lib.hid (L6.out.trans (hb7.mono L6.out.size))
    clear hb7 P7 B6 L6
    go_wp2_with fail
    with_reducible refine (challenge_any R key A m c w7 (HR.out.below L7.out h0) (Nat.lt_of_lt_of_le h0 L7.out.size) hRn hkn (HG.out.below L7.out)).mono ?_
    rintro e w8 ⟨rfl, hb8⟩
    have B8 := Lib.hid (B7.out.below hb8 B7.out.lt)
    have L8 : Hid (Below w.heap.size w w8) := Lib.hid (L7.out.trans (hb8.mono L7.out.size))
    have hEb : chal R key m < QQ := numN_lt _
    obtain ⟨E, hE⟩ : ∃ x, chal R key m = x := ⟨_, rfl⟩
    rw [hE] at hEb HSv ⊢
    have hEn : E < 18446744073709551616 := Nat.lt_trans hEb (by decide)
    have P9 := Lib.hid (timesQ E s w8 hEn hsn)
    have hTb : E * s % QQ < QQ := Nat.mod_lt _ (by decide)
    obtain ⟨T, hT⟩ : ∃ x, E * s % QQ = x := ⟨_, rfl⟩
    rw [hT] at hTb HSv P9
    have hTb' : T < 2305843009213693950 := hTb
    have HEn := Lib.hid hEn
    clear hb8 hE hEb hT hTb hEn B7 L7
    go_wp2_with fail
    with_reducible refine P9.out.mono ?_
    rintro e w9 ⟨rfl, hb9⟩
    have B9 := Lib.hid (B8.out.below hb9 B8.out.lt)
    have L9 : Hid (Below w.heap.size w w9) := Lib.hid (L8.out.trans (hb9.mono L8.out.size))
    clear hb9 P9 B8 L8
    obtain ⟨SV, hSV⟩ : ∃ x, (K + T) % QQ = x := ⟨_, rfl⟩
    have hSm : ((K : Int) + (T : Int)) % 2305843009213693950 = (SV : Int) := by rw [← hSV]; unfold QQ; omega
    rw [hSV] at HSv
    clear hSV
    have z0 := B9.out.cell 0
    have z1 := B9.out.cell 1
    have f0 := B9.out.frozen 0
    have f1 := B9.out.frozen 1
    have B10 := Lib.hid ((B9.out.set_ 0 (.int .u64 (R : Int))).set_ 1 (.int .u64 (SV : Int)))
    have L10 : Hid (Below w.heap.size w ((w9.setCell ⟨gs, 0, none⟩ (.int .u64 (R : Int))).setCell ⟨gs, 1, none⟩ (.int .u64 (SV : Int)))) := Lib.hid ((L9.out.setCell (by have := HGS.out; simp only; omega) _).setCell (by have := HGS.out; simp only; omega) _)
    go_wp2_with fail
    obtain ⟨wz, hwz⟩ : ∃ W, (w9.setCell ⟨gs, 0, none⟩ (.int .u64 (R : Int))).setCell ⟨gs, 1, none⟩ (.int .u64 (SV : Int)) = W := ⟨_, rfl⟩
    rw [hwz] at B10 L10 ⊢
    clear z0 z1 f0 f1
    have z0 : wz.cell? ⟨gs, 0, none⟩ = some (.int .u64 (R : Int)) := B10.out.cell 0
    have z1 : wz.cell? ⟨gs, 1, none⟩ = some (.int .u64 (SV : Int)) := B10.out.cell 1
    refine bodyPost_ret (v := .tuple #[.agg #[.int .u64 (R : Int), .int .u64 (SV : Int)], .int .i64 0]) (by simp [results, Tryd.results10, go_sem, z0, z1]) rfl ?_
    exact ⟨by rw [HRv.out, HSv.out], L10.out⟩
  · obtain ⟨k1, k2⟩ := key_no h
    have K := Lib.hid (key_any s w1 hsn)
    rw [k1, k2] at K
    have he : EE = 41 := by rw [← HEE.out, k2]
    subst he
    have HRv : Hid (RR = 0) := Lib.hid (by rw [← HRR.out, sigR, if_neg h])
    have HSv : Hid (SS = 0) := Lib.hid (by rw [← HSS.out, sigS, if_neg h])
    clear h k1 k2
    go_wp2_with fail
    with_reducible refine K.out.mono ?_
    rintro e w2 ⟨rfl, hb2⟩
    have B2 := Lib.hid (B1.out.below hb2 B1.out.lt)
    have L2 : Hid (Below w.heap.size w w2) := Lib.hid (L1.out.trans (hb2.mono L1.out.size))
    clear hb2
    have z0 := B2.out.cell 0
    have z1 := B2.out.cell 1
    have f0 := B2.out.frozen 0
    have f1 := B2.out.frozen 1
    have B10 := Lib.hid ((B2.out.set_ 0 (.int .u64 0)).set_ 1 (.int .u64 0))
    have L10 : Hid (Below w.heap.size w ((w2.setCell ⟨gs, 0, none⟩ (.int .u64 0)).setCell ⟨gs, 1, none⟩ (.int .u64 0))) := Lib.hid ((L2.out.setCell (by have := HGS.out; simp only; omega) _).setCell (by have := HGS.out; simp only; omega) _)
    go_wp2_with fail
    obtain ⟨wz, hwz⟩ : ∃ W, (w2.setCell ⟨gs, 0, none⟩ (.int .u64 0)).setCell ⟨gs, 1, none⟩ (.int .u64 0) = W := ⟨_, rfl⟩
    rw [hwz] at B10 L10 ⊢
    clear z0 z1 f0 f1
    have z0 : wz.cell? ⟨gs, 0, none⟩ = some (.int .u64 0) := B10.out.cell 0
    have z1 : wz.cell? ⟨gs, 1, none⟩ = some (.int .u64 0) := B10.out.cell 1
    refine bodyPost_ret (v := .tuple #[.agg #[.int .u64 0, .int .u64 0], .int .i64 41]) (by simp [results, Tryd.results10, go_sem, z0, z1]) rfl ?_
    exact ⟨by rw [HRv.out, HSv.out]; rfl, L10.out⟩
end Go.Proofs.YtcnmoallgfdomaaDoor
