/- What this text proves: plain facts on the floating numbers of 64 bits: how two stand to each other, by their bits. No condition. -/
import Derived.Laws.FloatArith
namespace Go.Proofs.Ytpbdlmkcomnjbaa
open Ieee
set_option linter.unusedVariables false
set_option linter.unusedSimpArgs false

def top : Nat := 9223372036854775808
def infR : Nat := 9218868437227405312
def bin : Nat := 4503599627370496
def sg (b : Nat) : Bool := decide (top ≤ b)
def rg (b : Nat) : Nat := b % top
def nanB (b : Nat) : Bool := decide (infR < rg b)
def key (b : Nat) : Int := if sg b then -(rg b : Int) else rg b
/-- A magnitude's figures, and by which power of two they are multiplied (above the least). -/
def mg (r : Nat) : Nat := if r < bin then r else bin + r % bin
def pl (r : Nat) : Nat := r / bin - 1
def val (r : Nat) : Nat := mg r * 2 ^ pl r
def sval (b : Nat) : Int := if sg b then -(val (rg b) : Int) else val (rg b)

theorem dbl_sw : double.signWeight = top := by decide
theorem dbl_bin : double.binade = bin := by decide
theorem dbl_inf : double.infRung = infR := by decide
theorem dbl_least : double.leastPlace = -1074 := by decide
theorem sg_eq {b : Nat} (hb : b < 18446744073709551616) : (b / top % 2 == 1) = sg b := by
  unfold sg top
  by_cases h : 9223372036854775808 ≤ b
  · rw [decide_eq_true h, beq_iff_eq]; omega
  · rw [decide_eq_false h, beq_eq_false_iff_ne]; omega
theorem rg_lt (b : Nat) : rg b < top := Nat.mod_lt _ (by decide)
theorem read_num {b : Nat} (hb : b < 18446744073709551616) (h : rg b < infR) : double.read b = .number (sg b) (mg (rg b)) (-1074 + (pl (rg b) : Int)) := by
  unfold Format.read
  simp only [dbl_sw, dbl_bin, dbl_inf, dbl_least, sg_eq hb]
  change (if rg b < bin then _ else if rg b < infR then _ else _) = _
  by_cases h1 : rg b < bin
  · rw [if_pos h1]
    have : pl (rg b) = 0 := by unfold pl bin at *; omega
    rw [this]
    unfold mg
    rw [if_pos h1]
    rfl
  · rw [if_neg h1, if_pos h]
    unfold mg
    rw [if_neg h1]
    rfl
theorem read_inf {b : Nat} (hb : b < 18446744073709551616) (h : rg b = infR) : double.read b = .infinity (sg b) := by
  unfold Format.read
  simp only [dbl_sw, dbl_bin, dbl_inf, dbl_least, sg_eq hb]
  change (if rg b < bin then _ else if rg b < infR then _ else if rg b = infR then _ else _) = _
  rw [if_neg (by rw [h]; decide), if_neg (by rw [h]; decide), if_pos h]
theorem read_nan {b : Nat} (hb : b < 18446744073709551616) (h : infR < rg b) : double.read b = .nan (sg b) (rg b - infR) := by
  unfold Format.read
  simp only [dbl_sw, dbl_bin, dbl_inf, dbl_least, sg_eq hb]
  change (if rg b < bin then _ else if rg b < infR then _ else if rg b = infR then _ else _) = _
  have : bin < infR := by decide
  rw [if_neg (by omega), if_neg (by omega), if_neg (by omega)]
  rfl

theorem val_lt {r s : Nat} (h : r < s) : val r < val s := by
  unfold val mg
  have hb : 0 < bin := by decide
  by_cases hs : s < bin
  · rw [if_pos hs, if_pos (by omega)]
    have h1 : pl r = 0 := by unfold pl; rw [Nat.div_eq_of_lt (by omega)]
    have h2 : pl s = 0 := by unfold pl; rw [Nat.div_eq_of_lt hs]
    rw [h1, h2]; omega
  · rw [if_neg hs]
    have hs1 : 1 ≤ s / bin := (Nat.one_le_div_iff hb).2 (by omega)
    have hps : 1 ≤ 2 ^ pl s := Nat.one_le_two_pow
    by_cases hr : r < bin
    · rw [if_pos hr]
      have h1 : pl r = 0 := by unfold pl; rw [Nat.div_eq_of_lt hr]
      rw [h1]
      calc r * 2 ^ 0 = r := by simp
        _ < bin := hr
        _ ≤ (bin + s % bin) * 1 := by omega
        _ ≤ (bin + s % bin) * 2 ^ pl s := Nat.mul_le_mul_left _ hps
    · rw [if_neg hr]
      have hr1 : 1 ≤ r / bin := (Nat.one_le_div_iff hb).2 (by omega)
      have hd : r / bin ≤ s / bin := Nat.div_le_div_right (by omega)
      have er := Nat.div_add_mod r bin
      have es := Nat.div_add_mod s bin
      have mr := Nat.mod_lt r hb
      have ms := Nat.mod_lt s hb
      rcases Nat.lt_or_ge (r / bin) (s / bin) with hlt | hge
      · have hp : 2 ^ (pl r + 1) ≤ 2 ^ pl s := Nat.pow_le_pow_right (by decide) (by unfold pl; omega)
        calc (bin + r % bin) * 2 ^ pl r < (2 * bin) * 2 ^ pl r := Nat.mul_lt_mul_of_pos_right (by omega) (Nat.two_pow_pos _)
          _ = bin * 2 ^ (pl r + 1) := by rw [Nat.pow_succ, Nat.mul_comm 2 bin, Nat.mul_assoc, Nat.mul_comm 2]
          _ ≤ bin * 2 ^ pl s := Nat.mul_le_mul_left _ hp
          _ ≤ (bin + s % bin) * 2 ^ pl s := Nat.mul_le_mul_right _ (by omega)
      · have he : r / bin = s / bin := by omega
        have hpl : pl r = pl s := by unfold pl; rw [he]
        rw [hpl]
        rw [he] at er
        exact Nat.mul_lt_mul_of_pos_right (by omega) (Nat.two_pow_pos _)
theorem val_zero : val 0 = 0 := by decide
theorem val_le {r s : Nat} (h : r ≤ s) : val r ≤ val s := by
  rcases Nat.lt_or_ge r s with h1 | h1
  · exact Nat.le_of_lt (val_lt h1)
  · rw [show r = s by omega]; exact Nat.le_refl _
theorem val_inj {r s : Nat} (h : val r = val s) : r = s := by
  rcases Nat.lt_trichotomy r s with h1 | h1 | h1
  · have := val_lt h1; omega
  · exact h1
  · have := val_lt h1; omega
theorem sval_lt_iff (a b : Nat) : sval a < sval b ↔ key a < key b := by
  unfold sval key
  have h0 := val_zero
  have p : ∀ r, 0 < r → 0 < val r := fun r h => by have := val_lt h; omega
  have lt : ∀ r s : Nat, val r < val s ↔ r < s := fun r s => ⟨fun h => by
    rcases Nat.lt_or_ge r s with h1 | h1
    · exact h1
    · have := val_le h1; omega, val_lt⟩
  have l1 := lt (rg a) (rg b)
  have l2 := lt (rg b) (rg a)
  have pa := p (rg a)
  have pb := p (rg b)
  have za : rg a = 0 → val (rg a) = 0 := fun h => by rw [h, h0]
  have zb : rg b = 0 → val (rg b) = 0 := fun h => by rw [h, h0]
  cases sg a <;> cases sg b <;> simp only [Bool.false_eq_true, if_false, if_true] <;> omega
theorem cmp_int (x y : Int) : compare x y = if x < y then .lt else if y < x then .gt else .eq := by
  rw [Int.compare_eq_ite_lt]
theorem compare_scale (x y : Int) (c : Int) (hc : 0 < c) : compare (x * c) (y * c) = compare x y := by
  have h : ∀ x y : Int, x * c < y * c ↔ x < y := fun x y => ⟨fun h => Int.lt_of_mul_lt_mul_right h (by omega), fun h => Int.mul_lt_mul_of_pos_right h hc⟩
  rw [cmp_int, cmp_int]
  simp only [h]
theorem compare_iff {x y x' y' : Int} (h : x < y ↔ x' < y') (h2 : y < x ↔ y' < x') : compare x y = compare x' y' := by
  rw [cmp_int, cmp_int]
  simp only [h, h2]
theorem signed_scale (s : Bool) (m p q : Nat) (h : p ≤ q) : signed s m (q - p) * (2 ^ p : Nat) = signed s m q := by
  have e : (m <<< (q - p) : Nat) * 2 ^ p = m <<< q := by
    rw [Nat.shiftLeft_eq, Nat.shiftLeft_eq, Nat.mul_assoc, ← Nat.pow_add, Nat.sub_add_cancel h]
  unfold signed
  cases s
  · simp only [Bool.false_eq_true, if_false]; rw [← e]; push_cast; rfl
  · simp only [if_true]; rw [← e]; push_cast; rw [Int.neg_mul]
theorem signed_val (b : Nat) : signed (sg b) (mg (rg b)) (pl (rg b)) = sval b := by
  unfold signed sval val
  rw [Nat.shiftLeft_eq]
theorem order_num {a b : Nat} (ha : a < 18446744073709551616) (hb : b < 18446744073709551616) (h1 : rg a < infR) (h2 : rg b < infR) : double.order a b = some (compare (sval a) (sval b)) := by
  unfold Format.order
  rw [read_num ha h1, read_num hb h2]
  simp only [Datum.order]
  congr 1
  rw [← signed_val a, ← signed_val b]
  rcases Nat.le_total (pl (rg a)) (pl (rg b)) with h | h
  · rw [show (min (-1074 + (pl (rg a) : Int)) (-1074 + (pl (rg b) : Int))) = -1074 + (pl (rg a) : Int) by omega, show (-1074 + (pl (rg a) : Int) - (-1074 + (pl (rg a) : Int))).toNat = pl (rg a) - pl (rg a) by omega, show (-1074 + (pl (rg b) : Int) - (-1074 + (pl (rg a) : Int))).toNat = pl (rg b) - pl (rg a) by omega]
    rw [← signed_scale (sg a) _ _ _ (Nat.le_refl (pl (rg a))), ← signed_scale (sg b) _ _ _ h, compare_scale _ _ _ (by have := Nat.two_pow_pos (pl (rg a)); omega)]
  · rw [show (min (-1074 + (pl (rg a) : Int)) (-1074 + (pl (rg b) : Int))) = -1074 + (pl (rg b) : Int) by omega, show (-1074 + (pl (rg a) : Int) - (-1074 + (pl (rg b) : Int))).toNat = pl (rg a) - pl (rg b) by omega, show (-1074 + (pl (rg b) : Int) - (-1074 + (pl (rg b) : Int))).toNat = pl (rg b) - pl (rg b) by omega]
    rw [← signed_scale (sg a) _ _ _ h, ← signed_scale (sg b) _ _ _ (Nat.le_refl (pl (rg b))), compare_scale _ _ _ (by have := Nat.two_pow_pos (pl (rg b)); omega)]
theorem order_key {a b : Nat} (ha : a < 18446744073709551616) (hb : b < 18446744073709551616) : double.order a b = if nanB a || nanB b then none else some (compare (key a) (key b)) := by
  unfold nanB
  by_cases na : infR < rg a
  · rw [decide_eq_true na]
    unfold Format.order
    rw [read_nan ha na]
    rfl
  by_cases nb : infR < rg b
  · rw [decide_eq_true nb, Bool.or_true]
    unfold Format.order
    rw [read_nan hb nb]
    rcases Nat.lt_or_ge (rg a) infR with h | h
    · rw [read_num ha h]; rfl
    · rw [read_inf ha (by omega)]; rfl
  rw [decide_eq_false na, decide_eq_false nb]
  simp only [Bool.or_self, Bool.false_eq_true, if_false]
  rcases Nat.lt_or_ge (rg a) infR with h1 | h1
  · rcases Nat.lt_or_ge (rg b) infR with h2 | h2
    · rw [order_num ha hb h1 h2]
      congr 1
      exact compare_iff (sval_lt_iff a b) (sval_lt_iff b a)
    · unfold Format.order
      rw [read_num ha h1, read_inf hb (by omega)]
      simp only [Datum.order]
      congr 1
      rw [cmp_int]
      unfold key
      have : rg b = infR := by omega
      cases sg b <;> cases sg a <;> simp only [Bool.false_eq_true, if_false, if_true] <;> (first | (rw [if_pos (by omega)]; done) | (rw [if_neg (by omega), if_pos (by omega)]; done))
  · rcases Nat.lt_or_ge (rg b) infR with h2 | h2
    · unfold Format.order
      rw [read_inf ha (by omega), read_num hb h2]
      simp only [Datum.order]
      congr 1
      rw [cmp_int]
      unfold key
      have : rg a = infR := by omega
      cases sg a <;> cases sg b <;> simp only [Bool.false_eq_true, if_false, if_true] <;> (first | (rw [if_pos (by omega)]; done) | (rw [if_neg (by omega), if_pos (by omega)]; done))
    · unfold Format.order
      rw [read_inf ha (by omega), read_inf hb (by omega)]
      simp only [Datum.order]
      congr 1
      rw [cmp_int]
      unfold key
      have e1 : rg a = infR := by omega
      have e2 : rg b = infR := by omega
      rw [e1, e2]
      cases sg a <;> cases sg b <;> decide

/-- How two numbers stand to each other in Go: 'comparisons with a NaN are false'. -/
def ordB (b : Nat) : Bool := !nanB b
def ltF (a b : Nat) : Bool := !(nanB a || nanB b) && decide (key a < key b)
def leF (a b : Nat) : Bool := !(nanB a || nanB b) && decide (key a ≤ key b)
def eqF (a b : Nat) : Bool := !(nanB a || nanB b) && decide (key a = key b)
end Go.Proofs.Ytpbdlmkcomnjbaa
