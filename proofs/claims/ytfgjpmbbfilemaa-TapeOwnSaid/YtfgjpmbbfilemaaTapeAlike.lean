/- What this text proves: the contract of the law's 'alike'. The conditions are how the two tapes lie in memory. -/
import Derived.Test.YtfgjpmbbfilemaaTapeRefPick
import Derived.Test.YtfgjpmbbfilemaaTapeRefTrim
import Derived.Test.YtfgjpmbbfilemaaTapeRefApp
import Derived.Test.YtfgjpmbbfilemaaSame02
namespace Go.Proofs.Ytfgjpmbbfilemaa
open Go.RowKit
set_option linter.unusedVariables false
set_option linter.unusedSimpArgs false

/-- Same, the lengths apart. -/
theorem same02_len (A A' : Option Addr) (xs ys : List UInt8) (n n' : Nat) (c c' : Nat) (w : World) (h : xs.length = n) (h' : ys.length = n') (hA : Sl w w.heap.size 1 A n (bts xs)) (hA' : Sl w w.heap.size 1 A' n' (bts ys)) :
    Calls Try.prog 12 #[.slice A n c, .slice A' n' c'] w fun e w' => e = .returned (.bool (decide (xs = ys))) ∧ Below w.heap.size w w' := by
  subst h h'
  exact same02_any A A' xs ys c c' w hA hA'

theorem same02_yes (A A' : Option Addr) (xs : List UInt8) (n n' : Nat) (c c' : Nat) (w : World) (h : xs.length = n) (h' : xs.length = n') (hA : Sl w w.heap.size 1 A n (bts xs)) (hA' : Sl w w.heap.size 1 A' n' (bts xs)) :
    Calls Try.prog 12 #[.slice A n c, .slice A' n' c'] w fun e w' => e = .returned (.bool true) ∧ Below w.heap.size w w' :=
  (same02_len A A' xs xs n n' c c' w h h' hA hA').mono fun e w' ⟨h1, h2⟩ => ⟨h1.trans (by rw [decide_eq_true rfl]), h2⟩

set_option maxHeartbeats 1000000 in
theorem alike_any (p : Nat) (sv : Value) (f n : List UInt8 × Nat) (st : List (List UInt8 × Nat)) (m : Nat) (lv : Value) (l : List (List UInt8 × Nat)) (w : World) (h : TapeAt w p sv f n st) (h' : RefAt w m lv l) (hk : l.length = st.length + 1) (hk2 : st.length ≤ 1000000) (hs : l[st.length]? = some n) :
    Calls Try.prog 15 #[.pointer (some ⟨p, 0, none⟩), .pointer (some ⟨m, 0, none⟩)] w fun e w' => e = .returned (.bool true) ∧ Below w.heap.size w w' := by
  have HR := Lib.hid (read_any p sv f n st w h)
  have HM := Lib.hid (fun (w1 : World) (hb : Below w.heap.size w w1) => rread_any m lv l n st.length w1 (h'.below hb (Nat.le_refl _)) hk hk2 hs)
  have HF := Lib.hid (fun (w1 : World) (hb : Below w.heap.size w w1) => safe_any p sv f n st w1 (h.below hb (Nat.le_refl _)))
  have HF' := Lib.hid (fun (w1 : World) (hb : Below w.heap.size w w1) => rsafe_any m lv l n st.length w1 (h'.below hb (Nat.le_refl _)) hk hk2 hs)
  have HC := Lib.hid (fun (w1 : World) (hb : Below w.heap.size w w1) => calls_any p sv f n st w1 (h.below hb (Nat.le_refl _)))
  have HC' := Lib.hid (fun (w1 : World) (hb : Below w.heap.size w w1) => rcalls_any m lv l st.length w1 (h'.below hb (Nat.le_refl _)) hk hk2)
  clear h h' hs hk
  have e1 : ((n.2 : Int) == (n.2 : Int)) = true := by simp
  have e2 : ((st.length : Int) == (st.length : Int)) = true := by simp
  go_enter Try.func15, Try.ntmps15
  go_wp2_with fail
  with_reducible refine HR.out.mono ?_
  rintro e w1 ⟨v, rfl, hr, b1, _⟩
  obtain ⟨A, c, rfl, _, _, hsl⟩ := hr.sl
  obtain ⟨L, hL⟩ : ∃ L, (bts n.1).length = L := ⟨_, rfl⟩
  rw [hL] at hsl ⊢
  have HS := Lib.hid hsl
  have HL := Lib.hid hL
  clear hr hsl hL
  go_wp2_with fail
  with_reducible refine (HM.out _ b1).mono ?_
  rintro e w2 ⟨A', c', rfl, hr', b2⟩
  have b2' := step_b b1 b2
  obtain ⟨A2, c2, hA2, _, _, hsl2⟩ := hr'.sl
  injection hA2 with g1 g0 g2
  subst g1 g2
  have HSame := Lib.hid (same02_yes A A' n.1 L n.1.length c c' w2 (by have := HL.out; rwa [bts_len] at this) rfl ((HS.out.below b2).more b2.size) (by rw [bts_len] at hsl2; exact (hsl2.below b2).more b2.size))
  clear hr' hsl2 g0
  go_wp2_with fail
  with_reducible refine HSame.out.mono ?_
  rintro e w3 ⟨rfl, b3⟩
  have b3' := step_b b2' b3
  go_wp2_with fail
  with_reducible refine (HF.out _ b3').mono ?_
  rintro e w4 ⟨rfl, b4⟩
  have b4' := step_b b3' b4
  go_wp2_with fail
  with_reducible refine (HF'.out _ b4').mono ?_
  rintro e w5 ⟨rfl, b5⟩
  have b5' := step_b b4' b5
  go_wp2_with fail
  with_reducible refine (HC.out _ b5').mono ?_
  rintro e w6 ⟨rfl, b6⟩
  have b6' := step_b b5' b6
  go_wp2_with fail
  with_reducible refine (HC'.out _ b6').mono ?_
  rintro e w7 ⟨rfl, b7⟩
  have b7' := step_b b6' b7
  go_wp2_with fail
  go_ret
  exact ⟨rfl, b7'⟩
end Go.Proofs.Ytfgjpmbbfilemaa
