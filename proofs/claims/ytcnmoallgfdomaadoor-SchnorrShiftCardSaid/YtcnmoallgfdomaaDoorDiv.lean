/- What this text proves: the contract of the library's bits.Div64, for a divisor of 61 bits that is more than the upper word: the quotient and the rest. The conditions are these. -/
import Derived.Test.YtcnmoallgfdomaaDoorProg
import Derived.Test.YtcnmoallgfdomaaDoorBase
import Derived.Test.YtcnmoallgfdomaaDoorShelf
import Derived.Test.YtcnmoallgfdomaaDoorDivMath
import Derived.WalkKit
import Derived.BigQuiet
import Derived.Deep.QuietTactic
import Derived.Deep.CutBlock
import Derived.Deep.DeepCutAuto
namespace Go.Proofs.YtcnmoallgfdomaaDoor
open Go.RowKit
set_option linter.unusedVariables false
set_option linter.unusedSimpArgs false

def DivPost (hi lo y : Nat) (w : World) (e : Ending) (w' : World) : Prop :=
  e = .returned (.tuple #[.int .u64 (((hi * 18446744073709551616 + lo) / y : Nat) : Int), .int .u64 (((hi * 18446744073709551616 + lo) % y : Nat) : Int)]) ∧ w = w'

set_option maxHeartbeats 4000000 in
theorem div_any (hi lo y : Nat) (w : World) (h0 : 1 ≤ hi) (h1 : hi < y) (h3 : lo < 18446744073709551616) (h4 : 1152921504606846976 ≤ y) (h5 : y < 2305843009213693952) :
    Calls Tryd.prog 28 #[.int .u64 hi, .int .u64 lo, .int .u64 y] w (DivPost hi lo y w) := by
  have HL := Lib.hid (Tryd.bits_LeadingZeros64 (y : Int) w (by omega) (by omega))
  rw [show ((y : Int).toNat) = y from rfl, bitLen_61 y h4 h5] at HL
  -- the words
  obtain ⟨Y, hY⟩ : ∃ Y, Y = y * 8 := ⟨_, rfl⟩
  obtain ⟨y1, hy1⟩ : ∃ a, a = Y / 4294967296 := ⟨_, rfl⟩
  obtain ⟨y0, hy0⟩ : ∃ a, a = Y % 4294967296 := ⟨_, rfl⟩
  obtain ⟨u, hu⟩ : ∃ a, a = hi * 8 + lo / 2305843009213693952 := ⟨_, rfl⟩
  obtain ⟨v, hv⟩ : ∃ a, a = lo * 8 % 18446744073709551616 := ⟨_, rfl⟩
  obtain ⟨v1, hv1⟩ : ∃ a, a = v / 4294967296 := ⟨_, rfl⟩
  obtain ⟨v0, hv0⟩ : ∃ a, a = v % 4294967296 := ⟨_, rfl⟩
  have hYs : Y = y1 * 4294967296 + y0 := by omega
  have l1 : 2147483648 ≤ y1 := by omega
  have l2 : y1 < 4294967296 := by omega
  have l3 : y0 < 4294967296 := by omega
  have l4 : u < Y := by omega
  have l5 : v1 < 4294967296 := by omega
  have l6 : v0 < 4294967296 := by omega
  have l7 : Y < 18446744073709551616 := by omega
  have hN : 8 * (hi * 18446744073709551616 + lo) = (u * 4294967296 + v1) * 4294967296 + v0 := by omega
  have E1 : (y : Int) * 8 = (Y : Int) := by omega
  have E2 : (Y : Int) / 4294967296 = (y1 : Int) := by omega
  have E3 : bits .and .u64 (Y : Int) 4294967295 = (y0 : Int) := by rw [hy0]; exact mask_nat Y (by omega)
  have E4 : bits .or .u64 ((hi : Int) * 8) ((lo : Int) / 2305843009213693952) = (u : Int) := by rw [hu]; exact or_nat hi (lo / 2305843009213693952) (by omega) (by omega)
  have E5 : IntKind.u64.wrap ((lo : Int) * 8) = (v : Int) := by rw [IntKind.wrap_u64]; omega
  have E6 : (v : Int) / 4294967296 = (v1 : Int) := by omega
  have E7 : bits .and .u64 (v : Int) 4294967295 = (v0 : Int) := by rw [hv0]; exact mask_nat v (by omega)
  have g0 := Guess.start hYs l1 l2 l3 l4 l5
  obtain ⟨q0, hq0⟩ : ∃ a, a = u / y1 := ⟨_, rfl⟩
  have hp0 : q0 * y1 ≤ u := by have := g0.sum; rw [← hq0] at this; omega
  obtain ⟨r0, hr0⟩ : ∃ a, a = u - q0 * y1 := ⟨_, rfl⟩
  rw [← hq0, ← hr0] at g0
  have E8 : IntKind.u64.wrap ((u : Int).tdiv (y1 : Int)) = (q0 : Int) := by rw [hq0]; exact IntWalk.u64_quo _ _ (by omega)
  have E9 : IntKind.u64.wrap ((u : Int) - IntKind.u64.wrap ((q0 : Int) * (y1 : Int))) = (r0 : Int) := by
    rw [← Int.natCast_mul, wrap_nat _ (by omega), hr0, IntKind.wrap_u64]
    omega
  have F := Lib.hid (And.intro E1 (And.intro E2 (And.intro E3 (And.intro E4 (And.intro E5 (And.intro E6 (And.intro E7 (And.intro E8 E9))))))))
  have HN := Lib.hid hN
  have HY := Lib.hid hYs
  have HY8 := Lib.hid hY
  clear E1 E2 E3 E4 E5 E6 E7 E8 E9 hN hYs hY hy1 hy0 hu hv hv1 hv0 hq0 hr0 hp0
  go_enter Tryd.func28, Tryd.ntmps28
  go_wp2_with fail
  with_reducible refine HL.out.mono ?_
  rintro e w' ⟨rfl, rfl⟩
  go_upto_block 0 with fail
  obtain ⟨E1, E2, E3, E4, E5, E6, E7, E8, E9⟩ := F.out
  simp only [E1, E2, E3, E4, E5, E6, E7, E8, E9]
  clear E1 E2 E3 E4 E5 E6 E7 E8 E9
  have G0 := Lib.hid g0
  clear g0
  go_cut [15, 16] (fun s15 s16 wx => ∃ q : Nat, s15 = .int .u64 (q : Int) ∧ q * Y ≤ u * 4294967296 + v1 ∧ u * 4294967296 + v1 < (q + 1) * Y ∧ wx = w')
  case first =>
    go_wp2_with fail
    go_loop [15, 16] (fun s15 s16 => ∃ q r : Nat, s15 = .int .u64 (q : Int) ∧ s16 = .int .u64 (r : Int) ∧ Guess Y y1 y0 u v1 q r) (fun s15 _ => (intOf s15).toNat)
    case atStart => exact ⟨_, _, rfl, rfl, G0.out⟩
    case round =>
      obtain ⟨q, r, rfl, rfl, g⟩ := hrel
      have few := g.few
      have low := g.low
      by_cases hc : 4294967296 ≤ q ∨ 4294967296 * r + v1 < q * y0
      · obtain ⟨k1, k2, k3, k4⟩ := g.next HY.out l1 l4 l5 hc
        have G2 := Lib.hid k2
        have G3 := Lib.hid k3
        clear k2 k3
        have hq1 : (1 : Int) ≤ (q : Int) := by omega
        have hs : (q : Int) - 1 = ((q - 1 : Nat) : Int) := by omega
        have HS := Lib.hid hs
        clear hs
        have key : ∀ (Q : Prop), (r + y1 < 4294967296 → Guess Y y1 y0 u v1 (q - 1) (r + y1) → Q) → (4294967296 ≤ r + y1 → (q - 1) * Y ≤ u * 4294967296 + v1 → Q) → Q := by
          intro Q h1 h2
          rcases Nat.lt_or_ge (r + y1) 4294967296 with h | h
          · exact h1 h ⟨G2.out, h, G3.out, by omega⟩
          · exact h2 h (guess_broke HY.out l3 G2.out h k4)
        rcases Nat.lt_or_ge q 4294967296 with hlt | hge
        · have t1 : decide ((4294967296 : Int) ≤ (q : Int)) = false := by simp; omega
          have hp : q * y0 < 18446744073709551616 := by
            have := Nat.mul_le_mul_right y0 (show q ≤ 4294967296 by omega)
            omega
          have HW : IntKind.u64.wrap ((q : Int) * (y0 : Int)) = (q : Int) * (y0 : Int) := by rw [← Int.natCast_mul, wrap_nat _ hp]
          have t2 : decide ((4294967296 : Int) * (r : Int) + (v1 : Int) < (q : Int) * (y0 : Int)) = true := by simp; omega
          refine key _ (fun hr gg => ?_) (fun hr gg => ?_)
          · have t3 : decide ((4294967296 : Int) ≤ (r : Int) + (y1 : Int)) = false := by simp; omega
            have GG := Lib.hid gg
            clear gg hc g key
            go_wp2_with fail
            go_round
            case rel => exact ⟨q - 1, r + y1, by rw [← HS.out], by go_num, GG.out⟩
            case measure => simp [intOf]; omega
          · have t3 : decide ((4294967296 : Int) ≤ (r : Int) + (y1 : Int)) = true := by simp; omega
            have GG := Lib.hid gg
            clear gg hc g key
            go_wp2_with fail
            go_meet
            case rel => exact ⟨q - 1, by rw [← HS.out], GG.out, G3.out, rfl⟩
        · have t1 : decide ((4294967296 : Int) ≤ (q : Int)) = true := by simp; omega
          refine key _ (fun hr gg => ?_) (fun hr gg => ?_)
          · have t3 : decide ((4294967296 : Int) ≤ (r : Int) + (y1 : Int)) = false := by simp; omega
            have GG := Lib.hid gg
            clear gg hc g key
            go_wp2_with fail
            go_round
            case rel => exact ⟨q - 1, r + y1, by rw [← HS.out], by go_num, GG.out⟩
            case measure => simp [intOf]; omega
          · have t3 : decide ((4294967296 : Int) ≤ (r : Int) + (y1 : Int)) = true := by simp; omega
            have GG := Lib.hid gg
            clear gg hc g key
            go_wp2_with fail
            go_meet
            case rel => exact ⟨q - 1, by rw [← HS.out], GG.out, G3.out, rfl⟩
      · have hq : q < 4294967296 := by omega
        have hle : q * y0 ≤ 4294967296 * r + v1 := by omega
        have t1 : decide ((4294967296 : Int) ≤ (q : Int)) = false := by simp; omega
        have HW : IntKind.u64.wrap ((q : Int) * (y0 : Int)) = (q : Int) * (y0 : Int) := by rw [← Int.natCast_mul, wrap_nat _ (by omega)]
        have t2 : decide ((4294967296 : Int) * (r : Int) + (v1 : Int) < (q : Int) * (y0 : Int)) = false := by simp; omega
        have GG := Lib.hid (g.done HY.out hle)
        clear hc g
        go_wp2_with fail
        go_meet
        case rel => exact ⟨q, rfl, GG.out.1, GG.out.2, rfl⟩
  case rest =>
    obtain ⟨q, rfl, hq1, hq2, rfl⟩ := hcut
    have hqs := digit_lt hq1 rfl l4 l5
    obtain ⟨R, hA, hR⟩ := left_of hq1 hq2
    have E1 := rest_nat u v1 q Y R hA (by omega)
    have g1 := Guess.start HY.out l1 l2 l3 hR l6
    obtain ⟨q0', hq0⟩ : ∃ a, a = R / y1 := ⟨_, rfl⟩
    have hp0 : q0' * y1 ≤ R := by have := g1.sum; rw [← hq0] at this; omega
    obtain ⟨r0', hr0⟩ : ∃ a, a = R - q0' * y1 := ⟨_, rfl⟩
    rw [← hq0, ← hr0] at g1
    have E2 : IntKind.u64.wrap ((R : Int).tdiv (y1 : Int)) = (q0' : Int) := by rw [hq0]; exact IntWalk.u64_quo _ _ (by omega)
    have E2' : (R : Int) / (y1 : Int) = (q0' : Int) := by rw [hq0]; omega
    have E3 : IntKind.u64.wrap ((R : Int) - IntKind.u64.wrap ((q0' : Int) * (y1 : Int))) = (r0' : Int) := by
      rw [← Int.natCast_mul, wrap_nat _ (by omega), hr0, IntKind.wrap_u64]
      omega
    have HA := Lib.hid hA
    have F2 := Lib.hid (And.intro E1 (And.intro E2 (And.intro E2' E3)))
    have G1 := Lib.hid g1
    clear E1 E2 E2' E3 hq0 hr0 hp0 hA hq1 hq2 g1 G0
    go_upto_block 2 with fail
    obtain ⟨E1, E2, E2', E3⟩ := F2.out
    simp only [E1, E2, E2', E3]
    clear E1 E2 E2' E3
    go_outline
    go_cut [18, 16] (fun s15 s16 wx => ∃ q : Nat, s15 = .int .u64 (q : Int) ∧ q * Y ≤ R * 4294967296 + v0 ∧ R * 4294967296 + v0 < (q + 1) * Y ∧ wx = wc)
    case first =>
      go_wp2_with fail
      go_loop [18, 16] (fun s15 s16 => ∃ q r : Nat, s15 = .int .u64 (q : Int) ∧ s16 = .int .u64 (r : Int) ∧ Guess Y y1 y0 R v0 q r) (fun s15 _ => (intOf s15).toNat)
      case atStart => exact ⟨_, _, rfl, rfl, G1.out⟩
      case round =>
        obtain ⟨q, r, rfl, rfl, g⟩ := hrel
        have few := g.few
        have low := g.low
        by_cases hc : 4294967296 ≤ q ∨ 4294967296 * r + v0 < q * y0
        · obtain ⟨k1, k2, k3, k4⟩ := g.next HY.out l1 hR l6 hc
          have G2 := Lib.hid k2
          have G3 := Lib.hid k3
          clear k2 k3
          have hq1 : (1 : Int) ≤ (q : Int) := by omega
          have hs : (q : Int) - 1 = ((q - 1 : Nat) : Int) := by omega
          have HS := Lib.hid hs
          clear hs
          have key : ∀ (Q : Prop), (r + y1 < 4294967296 → Guess Y y1 y0 R v0 (q - 1) (r + y1) → Q) → (4294967296 ≤ r + y1 → (q - 1) * Y ≤ R * 4294967296 + v0 → Q) → Q := by
            intro Q h1 h2
            rcases Nat.lt_or_ge (r + y1) 4294967296 with h | h
            · exact h1 h ⟨G2.out, h, G3.out, by omega⟩
            · exact h2 h (guess_broke HY.out l3 G2.out h k4)
          rcases Nat.lt_or_ge q 4294967296 with hlt | hge
          · have t1 : decide ((4294967296 : Int) ≤ (q : Int)) = false := by simp; omega
            have hp : q * y0 < 18446744073709551616 := by
              have := Nat.mul_le_mul_right y0 (show q ≤ 4294967296 by omega)
              omega
            have HW : IntKind.u64.wrap ((q : Int) * (y0 : Int)) = (q : Int) * (y0 : Int) := by rw [← Int.natCast_mul, wrap_nat _ hp]
            have t2 : decide ((4294967296 : Int) * (r : Int) + (v0 : Int) < (q : Int) * (y0 : Int)) = true := by simp; omega
            refine key _ (fun hr gg => ?_) (fun hr gg => ?_)
            · have t3 : decide ((4294967296 : Int) ≤ (r : Int) + (y1 : Int)) = false := by simp; omega
              have GG := Lib.hid gg
              clear gg hc g key
              go_wp2_with fail
              go_round
              case rel => exact ⟨q - 1, r + y1, by rw [← HS.out], by go_num, GG.out⟩
              case measure => simp [intOf]; omega
            · have t3 : decide ((4294967296 : Int) ≤ (r : Int) + (y1 : Int)) = true := by simp; omega
              have GG := Lib.hid gg
              clear gg hc g key
              go_wp2_with fail
              go_meet
              case rel => exact ⟨q - 1, by rw [← HS.out], GG.out, G3.out, rfl⟩
          · have t1 : decide ((4294967296 : Int) ≤ (q : Int)) = true := by simp; omega
            refine key _ (fun hr gg => ?_) (fun hr gg => ?_)
            · have t3 : decide ((4294967296 : Int) ≤ (r : Int) + (y1 : Int)) = false := by simp; omega
              have GG := Lib.hid gg
              clear gg hc g key
              go_wp2_with fail
              go_round
              case rel => exact ⟨q - 1, r + y1, by rw [← HS.out], by go_num, GG.out⟩
              case measure => simp [intOf]; omega
            · have t3 : decide ((4294967296 : Int) ≤ (r : Int) + (y1 : Int)) = true := by simp; omega
              have GG := Lib.hid gg
              clear gg hc g key
              go_wp2_with fail
              go_meet
              case rel => exact ⟨q - 1, by rw [← HS.out], GG.out, G3.out, rfl⟩
        · have hq : q < 4294967296 := by omega
          have hle : q * y0 ≤ 4294967296 * r + v0 := by omega
          have t1 : decide ((4294967296 : Int) ≤ (q : Int)) = false := by simp; omega
          have HW : IntKind.u64.wrap ((q : Int) * (y0 : Int)) = (q : Int) * (y0 : Int) := by rw [← Int.natCast_mul, wrap_nat _ (by omega)]
          have t2 : decide ((4294967296 : Int) * (r : Int) + (v0 : Int) < (q : Int) * (y0 : Int)) = false := by simp; omega
          have GG := Lib.hid (g.done HY.out hle)
          clear hc g
          go_wp2_with fail
          go_meet
          case rel => exact ⟨q, rfl, GG.out.1, GG.out.2, rfl⟩

    case rest =>
      obtain ⟨q', rfl, hq1, hq2, rfl⟩ := hcut
      have hqs' := digit_lt hq1 rfl hR l6
      obtain ⟨R', hA', hR'⟩ := left_of hq1 hq2
      have E1 := rest_nat R v0 q' Y R' hA' (by omega)
      have EE := Lib.hid E1
      have HA' := Lib.hid hA'
      clear E1 hA' hq1 hq2
      go_wp2_with fail
      go_ret2
      have hy : Y = 8 * y := by have := HY8.out; omega
      have a1 := HA.out
      have a2 := HA'.out
      rw [hy] at a1 a2 hR'
      obtain ⟨d1, d2⟩ := two_digits HN.out a1 a2 hR' (by omega)
      refine ⟨?_, rfl⟩
      rw [d1, d2]
      refine ret_two rfl ?_
      show Value.int .u64 (IntKind.u64.wrap (IntKind.u64.wrap (IntKind.u64.wrap ((R : Int) * 4294967296) + (v0 : Int)) - IntKind.u64.wrap ((q' : Int) * (Y : Int))) / 8) = _
      rw [EE.out]
      rfl

/-- The upper word nothing. -/
theorem div_low (lo y : Nat) (w : World) (h3 : lo < 18446744073709551616) (h4 : 1152921504606846976 ≤ y) (h5 : y < 2305843009213693952) :
    Calls Tryd.prog 28 #[.int .u64 0, .int .u64 lo, .int .u64 y] w fun e w' => e = .returned (.tuple #[.int .u64 ((lo / y : Nat) : Int), .int .u64 ((lo % y : Nat) : Int)]) ∧ ∃ n, w' = w.drewN n := by
  have e1 : ((y : Int) == 0) = false := by simp; omega
  have e2 : ¬ y = 0 := by omega
  have e3 : ¬ (y : Int) = 0 := by omega
  have q1 : IntKind.u64.wrap ((lo : Int).tdiv (y : Int)) = ((lo / y : Nat) : Int) := by rw [IntWalk.u64_quo _ _ (by omega)]; rfl
  have q2 : (lo : Int).tmod (y : Int) = ((lo % y : Nat) : Int) := by rw [IntWalk.rem_in _ _ (by omega)]; rfl
  have q3 : (lo : Int) / (y : Int) = ((lo / y : Nat) : Int) := rfl
  have q4 : (lo : Int) % (y : Int) = ((lo % y : Nat) : Int) := rfl
  have Q := Lib.hid (And.intro q1 (And.intro q2 (And.intro q3 q4)))
  clear q1 q2 q3 q4
  go_enter Tryd.func28, Tryd.ntmps28
  go_wp2_with fail
  go_quiet (fail)
  go_wp2_with fail
  go_ret2
  refine ⟨ret_two ?_ rfl, nq, rfl⟩
  show Value.int .u64 (IntKind.u64.wrap ((lo : Int) / (y : Int))) = _
  have hd : lo / y < 18446744073709551616 := Nat.lt_of_le_of_lt (Nat.div_le_self _ _) h3
  rw [show (lo : Int) / (y : Int) = ((lo / y : Nat) : Int) from rfl, wrap_nat _ hd]

theorem mul_high {a b m : Nat} (ha : a < m) (hb : b < m) (hm : m < 2305843009213693952) : a * b / 18446744073709551616 < m ∧ a * b / 18446744073709551616 * 18446744073709551616 + a * b % 18446744073709551616 = a * b := by
  have h1 : a * b ≤ m * m := Nat.mul_le_mul (Nat.le_of_lt ha) (Nat.le_of_lt hb)
  have h2 : m * m ≤ m * 2305843009213693952 := Nat.mul_le_mul_left m (Nat.le_of_lt hm)
  have e := Nat.div_add_mod (a * b) 18446744073709551616
  omega

set_option maxHeartbeats 2000000 in
/-- A product modulo m, by the library. -/
theorem times_any (a b m : Nat) (w : World) (ha : a < 18446744073709551616) (hb : b < 18446744073709551616) (h4 : 1152921504606846976 ≤ m) (h5 : m < 2305843009213693952) :
    Calls Tryd.prog 15 #[.int .u64 a, .int .u64 b, .int .u64 m] w fun e w' => e = .returned (.int .u64 ((a * b % m : Nat) : Int)) ∧ Below w.heap.size w w' := by
  have e1 : ((m : Int) == 0) = false := by simp; omega
  have e2 : ¬ m = 0 := by omega
  have e3 : ¬ (m : Int) = 0 := by omega
  obtain ⟨x, hx⟩ : ∃ x, a % m = x := ⟨_, rfl⟩
  obtain ⟨y, hy⟩ : ∃ y, b % m = y := ⟨_, rfl⟩
  have hxm : x < m := by rw [← hx]; exact Nat.mod_lt _ (by omega)
  have hym : y < m := by rw [← hy]; exact Nat.mod_lt _ (by omega)
  have q1 : (a : Int) % (m : Int) = (x : Int) := by rw [← hx]; rfl
  have q2 : (b : Int) % (m : Int) = (y : Int) := by rw [← hy]; rfl
  have hres : x * y % m = a * b % m := by rw [← hx, ← hy, ← Nat.mul_mod]
  have HR := Lib.hid hres
  have HM := Lib.hid (fun W => Tryd.bits_Mul64 x y (by omega) (by omega) W)
  obtain ⟨m1, m2⟩ := mul_high hxm hym h5
  obtain ⟨hi, hhi⟩ : ∃ h, x * y / 18446744073709551616 = h := ⟨_, rfl⟩
  obtain ⟨lo, hlo⟩ : ∃ h, x * y % 18446744073709551616 = h := ⟨_, rfl⟩
  have hlo3 : lo < 18446744073709551616 := by rw [← hlo]; exact Nat.mod_lt _ (by omega)
  rw [hhi, hlo] at m2 HM
  rw [hhi] at m1
  have HD : Hid (∀ W : World, Calls Tryd.prog 28 #[.int .u64 hi, .int .u64 lo, .int .u64 m] W fun e w' => ∃ q : Int, e = .returned (.tuple #[.int .u64 q, .int .u64 ((a * b % m : Nat) : Int)]) ∧ ∃ n, w' = W.drewN n) := Lib.hid fun W => by
    rcases Nat.eq_zero_or_pos hi with h0 | h0
    · subst h0
      refine (div_low lo m W hlo3 h4 h5).mono fun e w' h => ?_
      rw [show lo = x * y from by omega] at h
      rw [hres] at h
      exact ⟨_, h⟩
    · refine (div_any hi lo m W h0 m1 hlo3 h4 h5).mono fun e w' h => ?_
      obtain ⟨h1, h2⟩ := h
      rw [m2, hres] at h1
      exact ⟨_, h1, 0, h2.symm⟩
  clear hres hhi hlo hx hy m2 m1
  go_enter Tryd.func15, Tryd.ntmps15
  go_wp2_with fail
  go_quiet ((with_reducible exact Calls.quiet_of_same (HM.out _)))
  go_wp2_with fail
  with_reducible refine (HD.out _).mono ?_
  rintro e w' ⟨q, rfl, n, rfl⟩
  go_wp2_with fail
  go_ret
  exact ⟨rfl, below_drewN (Below.refl _ _) _⟩
end Go.Proofs.YtcnmoallgfdomaaDoor
