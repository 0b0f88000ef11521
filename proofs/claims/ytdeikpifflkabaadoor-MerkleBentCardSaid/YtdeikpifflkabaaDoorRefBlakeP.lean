/- What this text proves: plain laws of a block's words, places and end, as the reference reckons them. No condition but the lists' lengths. -/
import Derived.Test.YtdeikpifflkabaaDoorRefBlakeB
namespace Go.Proofs.YtdeikpifflkabaaDoor
open Go.RowKit
set_option linter.unusedVariables false
set_option linter.unusedSimpArgs false

theorem ofInt_nat (x : Nat) : BitVec.ofInt 32 (x : Int) = BitVec.ofNat 32 x := by simp
theorem wrap_nat32 (x : Nat) (h : x < 4294967296) : IntKind.u32.wrap (x : Int) = (x : Int) := by
  have : IntKind.u32.wrap (x : Int) = (x : Int) % 4294967296 := by rfl
  rw [this]
  omega
theorem bits_or_nat (x y : Nat) (hx : x < 4294967296) (hy : y < 4294967296) : bits .or .u32 (x : Int) (y : Int) = ((x ||| y : Nat) : Int) := by
  have h : x ||| y < 2 ^ 32 := Nat.or_lt_two_pow hx hy
  have : bits .or .u32 (x : Int) (y : Int) = IntKind.u32.wrap (((BitVec.ofInt 32 (x : Int)) ||| (BitVec.ofInt 32 (y : Int))).toNat : Int) := by rfl
  rw [this, ofInt_nat, ofInt_nat, BitVec.toNat_or, BitVec.toNat_ofNat, BitVec.toNat_ofNat, Nat.mod_eq_of_lt hx, Nat.mod_eq_of_lt hy]
  exact wrap_nat32 _ h
theorem bits_xor_nat (x y : Nat) (hx : x < 4294967296) (hy : y < 4294967296) : bits .xor .u32 (x : Int) (y : Int) = ((x ^^^ y : Nat) : Int) := by
  have h : x ^^^ y < 2 ^ 32 := Nat.xor_lt_two_pow hx hy
  have : bits .xor .u32 (x : Int) (y : Int) = IntKind.u32.wrap (((BitVec.ofInt 32 (x : Int)) ^^^ (BitVec.ofInt 32 (y : Int))).toNat : Int) := by rfl
  rw [this, ofInt_nat, ofInt_nat, BitVec.toNat_xor, BitVec.toNat_ofNat, BitVec.toNat_ofNat, Nat.mod_eq_of_lt hx, Nat.mod_eq_of_lt hy]
  exact wrap_nat32 _ h
theorem bits_xor_comm (x y : Int) : bits .xor .u32 x y = bits .xor .u32 y x := by
  have h : ∀ x y : Int, bits .xor .u32 x y = IntKind.u32.wrap (((BitVec.ofInt 32 x) ^^^ (BitVec.ofInt 32 y)).toNat : Int) := fun _ _ => by rfl
  rw [h, h, BitVec.xor_comm]
theorem ofInt_wrap (x : Nat) : BitVec.ofInt 32 (IntKind.u32.wrap (x : Int)) = BitVec.ofNat 32 x := by
  have : IntKind.u32.wrap (x : Int) = ((x % 4294967296 : Nat) : Int) := by
    have : IntKind.u32.wrap (x : Int) = (x : Int) % 4294967296 := by rfl
    rw [this]; omega
  rw [this, ofInt_nat]
  apply BitVec.eq_of_toNat_eq
  simp
theorem bits_xor_assoc (x y z : Int) : bits .xor .u32 (bits .xor .u32 x y) z = bits .xor .u32 x (bits .xor .u32 y z) := by
  have h : ∀ x y : Int, bits .xor .u32 x y = IntKind.u32.wrap (((BitVec.ofInt 32 x) ^^^ (BitVec.ofInt 32 y)).toNat : Int) := fun _ _ => by rfl
  rw [h (bits .xor .u32 x y), h x (bits .xor .u32 y z), h x y, h y z, ofInt_wrap, ofInt_wrap, BitVec.ofNat_toNat, BitVec.ofNat_toNat, BitVec.setWidth_eq, BitVec.setWidth_eq, BitVec.xor_assoc]

/-- A word of four bytes. -/
def w4 (a b c d : UInt8) : Int := ((a.toNat + b.toNat * 256 + c.toNat * 65536 + d.toNat * 16777216 : Nat) : Int)
def wordsF : List UInt8 → List Int
  | a :: b :: c :: d :: r => w4 a b c d :: wordsF r
  | _ => []
theorem or_add (a b k : Nat) (hb : b < 2 ^ k) : b ||| a * 2 ^ k = b + a * 2 ^ k := by
  have := Nat.two_pow_add_eq_or_of_lt hb a
  rw [Nat.or_comm, Nat.mul_comm a, ← this, Nat.add_comm]
theorem wrapm (x k : Nat) (h : x * 2 ^ k < 4294967296) : IntKind.u32.wrap ((x : Int) * 2 ^ k) = ((x * 2 ^ k : Nat) : Int) := by
  rw [← wrap_nat32 _ h]
  congr 1
theorem w4_or (a b c d : UInt8) : bits .or .u32 (bits .or .u32 (bits .or .u32 (bits .or .u32 0 (IntKind.u32.wrap ((a.toNat : Int) * 2 ^ 0))) (IntKind.u32.wrap ((b.toNat : Int) * 2 ^ 8))) (IntKind.u32.wrap ((c.toNat : Int) * 2 ^ 16))) (IntKind.u32.wrap ((d.toNat : Int) * 2 ^ 24)) = w4 a b c d := by
  have ha := a.toNat_lt
  have hb := b.toNat_lt
  have hc := c.toNat_lt
  have hd := d.toNat_lt
  rw [w4]
  generalize a.toNat = a at *
  generalize b.toNat = b at *
  generalize c.toNat = c at *
  generalize d.toNat = d at *
  rw [wrapm a 0 (by omega), wrapm b 8 (by omega), wrapm c 16 (by omega), wrapm d 24 (by omega)]
  rw [show (0 : Int) = ((0 : Nat) : Int) from rfl, bits_or_nat _ _ (by omega) (by omega), Nat.zero_or, bits_or_nat _ _ (by omega) (by omega), or_add _ _ _ (by omega), bits_or_nat _ _ (by omega) (by omega), or_add _ _ _ (by omega), bits_or_nat _ _ (by omega) (by omega), or_add _ _ _ (by omega)]
  congr 1
  omega
theorem getD_at (P : List Int) (x : Int) (R : List Int) : (P ++ x :: R).getD P.length 0 = x := by
  rw [List.getD_eq_getElem?_getD, List.getElem?_append_right (Nat.le_refl _), Nat.sub_self]; rfl
theorem set_at (P : List Int) (x y : Int) (R : List Int) : (P ++ x :: R).set P.length y = P ++ y :: R := by
  rw [List.set_append, if_neg (by omega), Nat.sub_self]; rfl
theorem mload_words : ∀ (k : Nat) (l : List UInt8) (P : List Int), l.length = 4 * k → mload l (4 * P.length) (P ++ List.replicate k 0) = P ++ wordsF l
  | 0, l, P, h => by
    rw [List.eq_nil_of_length_eq_zero (by omega : l.length = 0)]
    simp [mload, wordsF]
  | k + 1, a :: b :: c :: d :: r, P, h => by
    have ih := mload_words k r (P ++ [w4 a b c d]) (by simp at h; omega)
    have e0 : 4 * P.length / 4 = P.length := by omega
    have e1 : (4 * P.length + 1) / 4 = P.length := by omega
    have e2 : (4 * P.length + 1 + 1) / 4 = P.length := by omega
    have e3 : (4 * P.length + 1 + 1 + 1) / 4 = P.length := by omega
    have f0 : 4 * P.length % 4 * 8 = 0 := by omega
    have f1 : (4 * P.length + 1) % 4 * 8 = 8 := by omega
    have f2 : (4 * P.length + 1 + 1) % 4 * 8 = 16 := by omega
    have f3 : (4 * P.length + 1 + 1 + 1) % 4 * 8 = 24 := by omega
    rw [mload, mload, mload, mload]
    simp only [mstep, e0, e1, e2, e3, f0, f1, f2, f3, List.replicate_succ, getD_at, set_at]
    rw [w4_or, show P ++ w4 a b c d :: List.replicate k 0 = (P ++ [w4 a b c d]) ++ List.replicate k 0 from by simp]
    rw [show 4 * P.length + 1 + 1 + 1 + 1 = 4 * (P ++ [w4 a b c d]).length from by simp; omega, ih, wordsF]
    simp
  | k + 1, [], P, h => by simp at h
  | k + 1, [_], P, h => by simp at h; omega
  | k + 1, [_, _], P, h => by simp at h; omega
  | k + 1, [_, _, _], P, h => by simp at h; omega
theorem mload_64 (l : List UInt8) (h : l.length = 64) : mload l 0 mzero = wordsF l := by
  have := mload_words 16 l [] (by omega)
  simpa [mzero] using this
theorem wordsF_len : ∀ (k : Nat) (l : List UInt8), l.length = 4 * k → (wordsF l).length = k
  | 0, l, h => by rw [List.eq_nil_of_length_eq_zero (by omega : l.length = 0)]; rfl
  | k + 1, a :: b :: c :: d :: r, h => by rw [wordsF, List.length_cons, wordsF_len k r (by simp at h; omega)]
  | k + 1, [], h => by simp at h
  | k + 1, [_], h => by simp at h; omega
  | k + 1, [_, _], h => by simp at h; omega
  | k + 1, [_, _, _], h => by simp at h; omega
theorem wordsF_at : ∀ (i k : Nat) (l : List UInt8) (a b c d : UInt8), l.length = 4 * k → l[4 * i]? = some a → l[4 * i + 1]? = some b → l[4 * i + 2]? = some c → l[4 * i + 3]? = some d → (wordsF l)[i]? = some (w4 a b c d)
  | 0, k, a' :: b' :: c' :: d' :: r, a, b, c, d, h, h0, h1, h2, h3 => by simp at h0 h1 h2 h3; subst h0 h1 h2 h3; rfl
  | i + 1, k, a' :: b' :: c' :: d' :: r, a, b, c, d, h, h0, h1, h2, h3 => by
    rw [wordsF, List.getElem?_cons_succ]
    refine wordsF_at i (k - 1) r a b c d (by simp at h; omega) ?_ ?_ ?_ ?_
    · rw [← h0, show 4 * (i + 1) = 4 * i + 4 from by omega]; simp
    · rw [← h1, show 4 * (i + 1) + 1 = 4 * i + 1 + 4 from by omega]; simp
    · rw [← h2, show 4 * (i + 1) + 2 = 4 * i + 2 + 4 from by omega]; simp
    · rw [← h3, show 4 * (i + 1) + 3 = 4 * i + 3 + 4 from by omega]; simp
  | i, k, [], a, b, c, d, h, h0, h1, h2, h3 => by simp at h0
  | i, k, [_], a, b, c, d, h, h0, h1, h2, h3 => by simp at h; omega
  | i, k, [_, _], a, b, c, d, h, h0, h1, h2, h3 => by simp at h; omega
  | i, k, [_, _, _], a, b, c, d, h, h0, h1, h2, h3 => by simp at h; omega

theorem w4_rng (a b c d : UInt8) : 0 ≤ w4 a b c d ∧ w4 a b c d < 4294967296 := by
  have ha := a.toNat_lt
  have hb := b.toNat_lt
  have hc := c.toNat_lt
  have hd := d.toNat_lt
  unfold w4
  omega
theorem wordsF_rng : ∀ (l : List UInt8), ∀ x ∈ wordsF l, 0 ≤ x ∧ x < 4294967296
  | a :: b :: c :: d :: r, x, hx => by
    rw [wordsF, List.mem_cons] at hx
    rcases hx with rfl | hx
    · exact w4_rng _ _ _ _
    · exact wordsF_rng r x hx
  | [], x, hx => by simp [wordsF] at hx
  | [_], x, hx => by simp [wordsF] at hx
  | [_, _], x, hx => by simp [wordsF] at hx
  | [_, _, _], x, hx => by simp [wordsF] at hx
theorem getD_rng {M : List Int} {i : Nat} (h : ∀ x ∈ M, 0 ≤ x ∧ x < 4294967296) : 0 ≤ M.getD i 0 ∧ M.getD i 0 < 4294967296 := by
  rw [List.getD_eq_getElem?_getD]
  cases e : M[i]? with
  | none => simp
  | some x => exact h x (List.mem_of_getElem? e)

/-- A round's mixings, one after another. -/
def rowF (V M : List Int) (r i : Nat) : List Int := if i ≤ 4 then colsF V M r i else diagF (colsF V M r 4) M r (i - 4)
def placesL : List (Nat × Nat × Nat × Nat) := [(0, 4, 8, 12), (1, 5, 9, 13), (2, 6, 10, 14), (3, 7, 11, 15), (0, 5, 10, 15), (1, 6, 11, 12), (2, 7, 8, 13), (3, 4, 9, 14)]
theorem rowF_step (V M : List Int) (r i a b c d : Nat) (h : placesL[i]? = some (a, b, c, d)) : gF (rowF V M r i) M a b c d (16 * r + 2 * i) = rowF V M r (i + 1) := by
  have hi : i < 8 := by have := (List.getElem?_eq_some_iff.1 h).1; simpa [placesL] using this
  have hc : i = 0 ∨ i = 1 ∨ i = 2 ∨ i = 3 ∨ i = 4 ∨ i = 5 ∨ i = 6 ∨ i = 7 := by omega
  rcases hc with rfl | rfl | rfl | rfl | rfl | rfl | rfl | rfl <;> (simp [placesL] at h; obtain ⟨rfl, rfl, rfl, rfl⟩ := h; rfl)
theorem rowF_zero (V M : List Int) (r : Nat) : rowF V M r 0 = V := rfl
theorem rowF_end (V M : List Int) (r : Nat) : rowF (roundsF V M r) M r 8 = roundsF V M (r + 1) := rfl
theorem rowF_len {V M : List Int} {r i : Nat} : (rowF V M r i).length = V.length := by
  unfold rowF
  split
  · exact colsF_len _
  · rw [diagF_len, colsF_len]
theorem places_lt (i a b c d : Nat) (h : placesL[i]? = some (a, b, c, d)) : a < 16 ∧ b < 16 ∧ c < 16 ∧ d < 16 := by
  have hall : ∀ p ∈ placesL, p.1 < 16 ∧ p.2.1 < 16 ∧ p.2.2.1 < 16 ∧ p.2.2.2 < 16 := by decide
  exact hall _ (List.mem_of_getElem? h)
theorem hout_get (h V : List Int) (hh : h.length = 8) : ∀ k, k ≤ 8 → ∀ i, i < 8 → (houtF h V k).getD i 0 = if i < k then bits .xor .u32 (h.getD i 0) (bits .xor .u32 (V.getD i 0) (V.getD (i + 8) 0)) else h.getD i 0
  | 0, _, i, hi => by rw [houtF, if_neg (by omega)]
  | k + 1, hk, i, hi => by
    have ih := hout_get h V hh k (by omega)
    rw [houtF]
    by_cases e : i = k
    · subst e
      rw [if_pos (by omega), List.getD_eq_getElem?_getD, List.getElem?_set_self (by rw [houtF_len]; omega), Option.getD_some, ih i hi, if_neg (by omega)]
    · rw [List.getD_eq_getElem?_getD, List.getElem?_set_ne (by omega), ← List.getD_eq_getElem?_getD, ih i hi]
      by_cases h2 : i < k
      · rw [if_pos h2, if_pos (by omega)]
      · rw [if_neg h2, if_neg (by omega)]
theorem hout_at (h V : List Int) (hh : h.length = 8) (i : Nat) (hi : i < 8) : (houtF h V 8)[i]? = some (bits .xor .u32 (bits .xor .u32 (h.getD i 0) (V.getD i 0)) (V.getD (i + 8) 0)) := by
  have := hout_get h V hh 8 (Nat.le_refl _) i hi
  rw [if_pos hi, List.getD_eq_getElem?_getD, List.getElem?_eq_getElem (by rw [houtF_len]; omega)] at this
  rw [List.getElem?_eq_getElem (by rw [houtF_len]; omega), bits_xor_assoc, ← this]
  rfl
end Go.Proofs.YtdeikpifflkabaaDoor
