/- What this text proves: the contract of the closure g of blake's block: what it leaves of the sixteen words. The conditions are how the words lie in memory. -/
import Derived.Test.YtdeikpifflkabaaDoorBlakeHalf
namespace Go.Proofs.YtdeikpifflkabaaDoor
open Go.RowKit
set_option linter.unusedVariables false
set_option linter.unusedSimpArgs false

def gF (V M : List Int) (a b c d k : Nat) : List Int := halfF (halfF V M a b c d k 16 20) M a b c d (k + 1) 24 25
theorem halfF_len {V M : List Int} {a b c d k s r : Nat} : (halfF V M a b c d k s r).length = V.length := by simp [halfF, half1, half2, half3]
theorem gF_len {V M : List Int} {a b c d k : Nat} : (gF V M a b c d k).length = V.length := by simp [gF, halfF_len]
theorem HalfAt.next {w w' : World} {gv gm ga gb gc gd : Nat} {V V' M : List Int} {a b c d : Nat} (h : HalfAt w gv gm ga gb gc gd V M a b c d) (hb : Bk w' gv 108 (u32s V').toArray) (hl : V'.length = V.length) (hm : Moves (fun g _ => g = gv) w w') : HalfAt w' gv gm ga gb gc gd V' M a b c d :=
  have f : ∀ (g n : Nat), Bk w g 3 #[.int .i64 (n : Int)] → g ≠ gv := fun g n hb => Bk.ne_ hb h.v (by decide)
  ⟨hb, hm.bk h.m (fun e => h.ne e.symm), hm.bk h.ka (f _ _ h.ka), hm.bk h.kb (f _ _ h.kb), hm.bk h.kc (f _ _ h.kc), hm.bk h.kd (f _ _ h.kd), by rw [hl]; exact h.lv, h.lm, h.la, h.lb, h.lc, h.ld, h.ne⟩

set_option maxHeartbeats 2000000 in
theorem g_any (V M : List Int) (a b c d k : Nat) (gv gm : Nat) (w : World) (hk : k + 1 < 160) (hv : Bk w gv 108 (u32s V).toArray) (hm : Bk w gm 108 (u32s M).toArray) (hne : gv ≠ gm) (lv : V.length = 16) (lm : M.length = 16) (la : a < 16) (lb : b < 16) (lc : c < 16) (ld : d < 16) :
    Calls Tryd.prog 66 #[.int .i64 a, .int .i64 b, .int .i64 c, .int .i64 d, .int .i64 k, .pointer (some ⟨gv, 0, none⟩), .pointer (some ⟨gm, 0, none⟩)] w fun e w' => e = .returned (.tuple #[]) ∧ Bk w' gv 108 (u32s (gF V M a b c d k)).toArray ∧ Moves (fun g _ => g = gv) w w' := by
  have HV := Lib.hid hv
  have HM := Lib.hid hm
  have hgl := hv.lt
  clear hv hm
  go_enter Tryd.func66, Tryd.ntmps66
  go_upto_region 1 with fail
  have ka := Bk.new w 3 #[.int .i64 a]
  have hs0 : (w.alloc (.cells #[.int .i64 a] 3)).heap.size = w.heap.size + 1 := by simp
  obtain ⟨w1, hw1⟩ : ∃ x, w.alloc (.cells #[.int .i64 a] 3) = x := ⟨_, rfl⟩
  have v1 : Bk w1 gv 108 (u32s V).toArray := by rw [← hw1]; exact HV.out.alloc _
  have m1 : Bk w1 gm 108 (u32s M).toArray := by rw [← hw1]; exact HM.out.alloc _
  have n1 : Moves (fun g _ => g = gv) w w1 := by rw [← hw1]; exact Moves.alloc _ _ _
  rw [hw1] at ka hs0 ⊢
  have kb := Bk.new w1 3 #[.int .i64 b]
  obtain ⟨w2, hw2⟩ : ∃ x, w1.alloc (.cells #[.int .i64 b] 3) = x := ⟨_, rfl⟩
  have hs1 : w2.heap.size = w1.heap.size + 1 := by rw [← hw2]; simp
  have v2 : Bk w2 gv 108 (u32s V).toArray := by rw [← hw2]; exact v1.alloc _
  have m2 : Bk w2 gm 108 (u32s M).toArray := by rw [← hw2]; exact m1.alloc _
  have ka2 : Bk w2 w.heap.size 3 #[.int .i64 a] := by rw [← hw2]; exact ka.alloc _
  have n2 : Moves (fun g _ => g = gv) w w2 := by rw [← hw2]; exact n1.trans_ (Moves.alloc _ _ _) (fun _ _ _ h => h)
  rw [hw2] at kb ⊢
  have kc := Bk.new w2 3 #[.int .i64 c]
  obtain ⟨w3, hw3⟩ : ∃ x, w2.alloc (.cells #[.int .i64 c] 3) = x := ⟨_, rfl⟩
  have hs2 : w3.heap.size = w2.heap.size + 1 := by rw [← hw3]; simp
  have v3 : Bk w3 gv 108 (u32s V).toArray := by rw [← hw3]; exact v2.alloc _
  have m3 : Bk w3 gm 108 (u32s M).toArray := by rw [← hw3]; exact m2.alloc _
  have ka3 : Bk w3 w.heap.size 3 #[.int .i64 a] := by rw [← hw3]; exact ka2.alloc _
  have kb3 : Bk w3 w1.heap.size 3 #[.int .i64 b] := by rw [← hw3]; exact kb.alloc _
  have n3 : Moves (fun g _ => g = gv) w w3 := by rw [← hw3]; exact n2.trans_ (Moves.alloc _ _ _) (fun _ _ _ h => h)
  rw [hw3] at kc ⊢
  have kd := Bk.new w3 3 #[.int .i64 d]
  have h4 : HalfAt (w3.alloc (.cells #[.int .i64 d] 3)) gv gm w.heap.size w1.heap.size w2.heap.size w3.heap.size V M a b c d := ⟨v3.alloc _, m3.alloc _, ka3.alloc _, kb3.alloc _, kc.alloc _, kd, lv, lm, la, lb, lc, ld, hne⟩
  have n4 : Moves (fun g _ => g = gv) w (w3.alloc (.cells #[.int .i64 d] 3)) := n3.trans_ (Moves.alloc _ _ _) (fun _ _ _ h => h)
  obtain ⟨w4, hw4⟩ : ∃ x, w3.alloc (.cells #[.int .i64 d] 3) = x := ⟨_, rfl⟩
  rw [hw4] at h4 n4 ⊢
  have q1 : w.heap.size + 1 = w1.heap.size := hs0.symm
  have q2 : w.heap.size + 1 + 1 = w2.heap.size := by omega
  have q3 : w.heap.size + 1 + 1 + 1 = w3.heap.size := by omega
  rw [q3, q2, q1]
  obtain ⟨ga, hga⟩ : ∃ x, w.heap.size = x := ⟨_, rfl⟩
  obtain ⟨gb, hgb⟩ : ∃ x, w1.heap.size = x := ⟨_, rfl⟩
  obtain ⟨gc, hgc⟩ : ∃ x, w2.heap.size = x := ⟨_, rfl⟩
  obtain ⟨gd, hgd⟩ : ∃ x, w3.heap.size = x := ⟨_, rfl⟩
  rw [hga, hgb, hgc, hgd] at h4 ⊢
  have H4 := Lib.hid h4
  have N4 := Lib.hid n4
  clear h4 n4 q1 q2 q3 hga hgb hgc hgd hw1 hw2 hw3 hw4 ka kb kc kd ka2 ka3 kb3 v1 v2 v3 m1 m2 m3 n1 n2 n3 hs0 hs1 hs2 HV HM
  have e1 : IntKind.i64.wrap ((k : Int) + 1) = ((k + 1 : Nat) : Int) := by rw [IntWalk.i64_in _ (by omega)]; omega
  have HE := Lib.hid e1
  clear e1
  go_wp2_with fail
  with_reducible refine (half_16 V M a b c d k gv gm ga gb gc gd w4 (by omega) H4.out).mono ?_
  rintro e w5 ⟨rfl, hb5, hm5⟩
  have H5 := Lib.hid (H4.out.next hb5 halfF_len hm5)
  have N5 := Lib.hid (N4.out.trans_ hm5 (fun _ _ _ h => h))
  clear hb5 hm5
  go_wp2_with fail
  rw [show (k : Int) + 1 = ((k + 1 : Nat) : Int) from by omega]
  with_reducible refine (half_8 _ M a b c d (k + 1) gv gm ga gb gc gd w5 hk H5.out).mono ?_
  rintro e w6 ⟨rfl, hb6, hm6⟩
  have HB6 := Lib.hid hb6
  have N6 := Lib.hid (N5.out.trans_ hm6 (fun _ _ _ h => h))
  clear hb6 hm6
  go_wp2_with fail
  go_end0
  exact ⟨rfl, HB6.out, N6.out⟩
end Go.Proofs.YtdeikpifflkabaaDoor
