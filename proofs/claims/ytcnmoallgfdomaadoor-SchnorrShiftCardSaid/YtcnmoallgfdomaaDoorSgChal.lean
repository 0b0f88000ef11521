/- What this text proves: the contracts of both challenges. The conditions are how the message lies in memory, that the numbers fit, and that the package's table is as its text lays it. -/
import Derived.Test.YtcnmoallgfdomaaDoorSgNum
import Derived.Test.YtcnmoallgfdomaaDoorBlakeJoin
import Derived.Test.YtcnmoallgfdomaaDoorRefBlakeJ
namespace Go.Proofs.YtcnmoallgfdomaaDoor
open Go.RowKit
set_option linter.unusedVariables false
set_option linter.unusedSimpArgs false

def chal (r key : Nat) (m : List UInt8) : Nat := numN (digF (2 :: (wordB r ++ (wordB key ++ m))))
def nonce (s : Nat) (m : List UInt8) : Nat := numN (digF (1 :: (wordB s ++ m)))
theorem Part.good.below {w w' : World} {p : Part} (h : p.good w) (hb : Below w.heap.size w w') : p.good w' := ⟨h.1, h.2.1, (h.2.2.below hb).more hb.size⟩
theorem slv8 (g c n : Nat) : slv (some ⟨g, 0, none⟩, c, wordB n) = .slice (some ⟨g, 0, none⟩) 8 c := by simp [slv, wordB_len]
theorem built_sl {w : World} {cs : List Value} {n : Nat} (h : cs.length = n) : Sl (w.alloc (.cells cs.toArray 23)) (w.alloc (.cells cs.toArray 23)).heap.size 1 (some ⟨w.heap.size, 0, none⟩) n cs :=
  ⟨by rw [h]; omega, fun _ => ⟨w.heap.size, 0, rfl, by simp, fun j u hu => by rw [Nat.zero_add, (Bk.new w 23 cs.toArray).cell, List.getElem?_toArray]; exact hu⟩⟩

attribute [local irreducible] digF
set_option maxRecDepth 100000 in
set_option maxHeartbeats 2000000 in
theorem challenge_any (r key : Nat) (A : Option Addr) (m : List UInt8) (c : Nat) (w : World) (hr : Roots w) (h0 : 2 < w.heap.size) (hrn : r < 18446744073709551616) (hkn : key < 18446744073709551616) (hg : Part.good w (A, c, m)) :
    Calls Tryd.prog 16 #[.int .u64 r, .int .u64 key, .slice A m.length c] w fun e w' => e = .returned (.int .u64 (chal r key m : Nat)) ∧ Below w.heap.size w w' := by
  have HR := Lib.hid hr
  have HG := Lib.hid hg
  clear hr hg
  go_enter Tryd.func16, Tryd.ntmps16
  go_wp2_with fail
  with_reducible refine (word_any r w hrn).mono ?_
  rintro e w1 ⟨g1, rfl, hg1, hb1⟩
  have G1 := Lib.hid hg1
  have B1 := Lib.hid hb1
  clear hg1 hb1
  go_wp2_with fail
  with_reducible refine (word_any key w1 hkn).mono ?_
  rintro e w2 ⟨g2, rfl, hg2, hb2⟩
  have G1 := Lib.hid (G1.out.below hb2)
  have G2 := Lib.hid hg2
  have B2 : Hid (Below w.heap.size w w2) := Lib.hid (B1.out.trans (hb2.mono B1.out.size))
  clear hg2 hb2 B1
  go_wp2_with fail
  have L3 : Hid (Below w2.heap.size w2 (w2.alloc (.cells #[.slice (some ⟨g1, 0, none⟩) 8 8, .slice (some ⟨g2, 0, none⟩) 8 8, .slice A m.length c] 23))) := Lib.hid (by (first | assumption | (repeat (first | exact Below.refl _ _ | assumption | apply Below.drew | apply below_drewN | (refine Below.setCell ?_ (by (try simp) <;> omega) _) | (refine Below.alloc ?_ (by (try simp) <;> omega) _)))))
  have S3 := Lib.hid (built_sl (w := w2) (cs := [.slice (some ⟨g1, 0, none⟩) 8 8, .slice (some ⟨g2, 0, none⟩) 8 8, .slice A m.length c]) (n := 3) rfl)
  obtain ⟨w3, hw3⟩ : ∃ W, w2.alloc (.cells #[.slice (some ⟨g1, 0, none⟩) 8 8, .slice (some ⟨g2, 0, none⟩) 8 8, .slice A m.length c] 23) = W := ⟨_, rfl⟩
  rw [hw3] at L3 S3 ⊢
  clear hw3
  have B3 : Hid (Below w.heap.size w w3) := Lib.hid (B2.out.trans (L3.out.mono B2.out.size))
  have hjn := join_any 2 (some ⟨w2.heap.size, 0, none⟩) [(some ⟨g1, 0, none⟩, 8, wordB r), (some ⟨g2, 0, none⟩, 8, wordB key), (A, c, m)] 3 w3 (HR.out.below B3.out h0) (Nat.lt_of_lt_of_le h0 B3.out.size) (by unfold maxLen; simp) (by show Sl w3 w3.heap.size 1 _ 3 _; simpa only [List.map_cons, List.map_nil, slv, wordB_len] using S3.out) (fun p hp => by
    rcases List.mem_cons.1 hp with rfl | hp
    · exact G1.out.below L3.out
    · rcases List.mem_cons.1 hp with rfl | hp
      · exact G2.out.below L3.out
      · rcases List.mem_cons.1 hp with rfl | hp
        · exact HG.out.below B3.out
        · cases hp)
  have hjn' : Calls Tryd.prog 21 #[.int .u8 2, .slice (some ⟨w2.heap.size, 0, none⟩) 3 3] w3 fun e w' => e = .returned (.agg (bts (digF (2 :: (wordB r ++ (wordB key ++ m))))).toArray) ∧ Below w3.heap.size w3 w' := by
    have e : joinF 2 [(some ⟨g1, 0, none⟩, 8, wordB r), (some ⟨g2, 0, none⟩, 8, wordB key), (A, c, m)] = digF (2 :: (wordB r ++ (wordB key ++ m))) := by simp [joinF, catF]
    rw [e] at hjn
    exact hjn
  with_reducible refine hjn'.mono ?_
  rintro e w4 ⟨rfl, hb4⟩
  have B4 : Hid (Below w.heap.size w w4) := Lib.hid (B3.out.trans (hb4.mono B3.out.size))
  clear hb4 hjn hjn' S3 L3 G1 G2 B2 B3
  go_wp2_with fail
  with_reducible refine (number_any _ w4 (digF_len _)).mono ?_
  rintro e w5 ⟨rfl, hb5⟩
  have B5 : Hid (Below w.heap.size w w5) := Lib.hid (B4.out.trans (hb5.mono B4.out.size))
  clear hb5
  go_wp2_with fail
  go_ret
  exact ⟨rfl, B5.out⟩

set_option maxRecDepth 100000 in
set_option maxHeartbeats 2000000 in
theorem rchallenge_any (r key : Nat) (A : Option Addr) (m : List UInt8) (c : Nat) (w : World) (hml : m.length ≤ 2000) (hrn : r < 18446744073709551616) (hkn : key < 18446744073709551616) (hg : Part.good w (A, c, m)) :
    Calls Tryd.prog 17 #[.int .u64 r, .int .u64 key, .slice A m.length c] w fun e w' => e = .returned (.int .u64 (chal r key m : Nat)) ∧ Below w.heap.size w w' := by
  have HG := Lib.hid hg
  clear hg
  go_enter Tryd.func17, Tryd.ntmps17
  go_wp2_with fail
  with_reducible refine (rword_any r w hrn).mono ?_
  rintro e w1 ⟨g1, c1, rfl, hg1, hb1⟩
  have G1 := Lib.hid hg1
  have B1 := Lib.hid hb1
  clear hg1 hb1
  go_wp2_with fail
  with_reducible refine (rword_any key w1 hkn).mono ?_
  rintro e w2 ⟨g2, c2, rfl, hg2, hb2⟩
  have G1 := Lib.hid (G1.out.below hb2)
  have G2 := Lib.hid hg2
  have B2 : Hid (Below w.heap.size w w2) := Lib.hid (B1.out.trans (hb2.mono B1.out.size))
  clear hg2 hb2 B1
  go_wp2_with fail
  have L3 : Hid (Below w2.heap.size w2 (w2.alloc (.cells #[.slice (some ⟨g1, 0, none⟩) 8 c1, .slice (some ⟨g2, 0, none⟩) 8 c2, .slice A m.length c] 23))) := Lib.hid (by (first | assumption | (repeat (first | exact Below.refl _ _ | assumption | apply Below.drew | apply below_drewN | (refine Below.setCell ?_ (by (try simp) <;> omega) _) | (refine Below.alloc ?_ (by (try simp) <;> omega) _)))))
  have S3 := Lib.hid (built_sl (w := w2) (cs := [.slice (some ⟨g1, 0, none⟩) 8 c1, .slice (some ⟨g2, 0, none⟩) 8 c2, .slice A m.length c]) (n := 3) rfl)
  obtain ⟨w3, hw3⟩ : ∃ W, w2.alloc (.cells #[.slice (some ⟨g1, 0, none⟩) 8 c1, .slice (some ⟨g2, 0, none⟩) 8 c2, .slice A m.length c] 23) = W := ⟨_, rfl⟩
  rw [hw3] at L3 S3 ⊢
  clear hw3
  have B3 : Hid (Below w.heap.size w w3) := Lib.hid (B2.out.trans (L3.out.mono B2.out.size))
  have hjn := rjoin_any 2 (some ⟨w2.heap.size, 0, none⟩) [(some ⟨g1, 0, none⟩, c1, wordB r), (some ⟨g2, 0, none⟩, c2, wordB key), (A, c, m)] 3 w3 (by unfold maxLen; simp) (by simp [catF, wordB_len]; omega) (by show Sl w3 w3.heap.size 1 _ 3 _; simpa only [List.map_cons, List.map_nil, slv, wordB_len] using S3.out) (fun p hp => by
    rcases List.mem_cons.1 hp with rfl | hp
    · exact G1.out.below L3.out
    · rcases List.mem_cons.1 hp with rfl | hp
      · exact G2.out.below L3.out
      · rcases List.mem_cons.1 hp with rfl | hp
        · exact HG.out.below B3.out
        · cases hp)
  have hjn' : Calls Tryd.prog 25 #[.int .u8 2, .slice (some ⟨w2.heap.size, 0, none⟩) 3 3] w3 fun e w' => e = .returned (.agg (bts (digF (2 :: (wordB r ++ (wordB key ++ m))))).toArray) ∧ Below w3.heap.size w3 w' := by
    have e : joinF 2 [(some ⟨g1, 0, none⟩, c1, wordB r), (some ⟨g2, 0, none⟩, c2, wordB key), (A, c, m)] = digF (2 :: (wordB r ++ (wordB key ++ m))) := by simp [joinF, catF]
    rw [e] at hjn
    exact hjn
  with_reducible refine hjn'.mono ?_
  rintro e w4 ⟨rfl, hb4⟩
  have B4 : Hid (Below w.heap.size w w4) := Lib.hid (B3.out.trans (hb4.mono B3.out.size))
  clear hb4 hjn hjn' S3 L3 G1 G2 B2 B3
  go_wp2_with fail
  with_reducible refine (rnumber_any _ w4 (digF_len _)).mono ?_
  rintro e w5 ⟨rfl, hb5⟩
  have B5 : Hid (Below w.heap.size w w5) := Lib.hid (B4.out.trans (hb5.mono B4.out.size))
  clear hb5
  go_wp2_with fail
  go_ret
  exact ⟨rfl, B5.out⟩
end Go.Proofs.YtcnmoallgfdomaaDoor
