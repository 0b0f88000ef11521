/- What this text proves: plain facts on powers modulo 2^61 - 1: 37 has the full order, so each number that is not a multiple has 1 for its power to the prime less 1. No program in sight. -/
import Derived.Test.YtcnmoallgfdomaaDoorPowMath
import Derived.KernelRfl
namespace Go.Proofs.YtcnmoallgfdomaaDoor
set_option linter.unusedVariables false
set_option linter.unusedSimpArgs false

/-- A power modulo m, bit by bit, that the kernel can reckon. -/
def powFast : Nat → Nat → Nat → Nat → Nat → Nat
  | 0, _, _, acc, _ => acc
  | f + 1, b, e, acc, m => powFast f (b * b % m) (e / 2) (if e % 2 = 1 then acc * b % m else acc) m
theorem powFast_eq (m r : Nat) : ∀ (f b e acc : Nat), e < 2 ^ f → acc < m → acc * b ^ e % m = r → powFast f b e acc m = r := by
  intro f
  induction f with
  | zero =>
    intro b e acc he ha h
    obtain rfl : e = 0 := by simpa using he
    rw [Nat.pow_zero, Nat.mul_one, Nat.mod_eq_of_lt ha] at h
    exact h
  | succ f ih =>
    intro b e acc he ha h
    unfold powFast
    rw [Nat.pow_succ] at he
    have hm : 0 < m := by omega
    rcases Nat.mod_two_eq_zero_or_one e with h0 | h0
    · rw [if_neg (by omega)]
      exact ih _ _ _ (by omega) ha (pow_even h h0)
    · rw [if_pos h0]
      exact ih _ _ _ (by omega) (Nat.mod_lt _ hm) (pow_odd h h0)
theorem pow_reckon {b e m r f : Nat} (he : e < 2 ^ f) (hm : 1 < m) (h : powFast f b e 1 m = r) : b ^ e % m = r := by
  rw [← h]
  exact (powFast_eq m _ f b e 1 he hm (by rw [Nat.one_mul])).symm

def G : Nat := 37
theorem g_one : G ^ QQ % PP = 1 := pow_reckon (f := 61) (by decide +kernel) PP_bd.2.2 (by decide +kernel)
theorem g_not (q : Nat) (hq : q ∈ [2, 3, 5, 7, 11, 13, 31, 41, 61, 151, 331, 1321]) : G ^ (QQ / q) % PP ≠ 1 := by
  have h : ∀ q ∈ [2, 3, 5, 7, 11, 13, 31, 41, 61, 151, 331, 1321], powFast 61 G (QQ / q) 1 PP ≠ 1 := by decide +kernel
  intro e
  refine h q hq ?_
  exact powFast_eq PP 1 61 G (QQ / q) 1 (Nat.lt_of_le_of_lt (Nat.div_le_self _ _) (by decide +kernel)) PP_bd.2.2 (by rw [Nat.one_mul]; exact e)

/-- The primes of the order. -/
theorem coprime_or {q : Nat} (hq : ∀ d, d < q + 1 → d ∣ q → d = 1 ∨ d = q) (h0 : 0 < q) (k : Nat) : q ∣ k ∨ Nat.Coprime k q := by
  have hd : Nat.gcd k q ∣ q := Nat.gcd_dvd_right k q
  have hl : Nat.gcd k q ≤ q := Nat.le_of_dvd h0 hd
  rcases hq _ (by omega) hd with h | h
  · exact .inr h
  · exact .inl (by rw [← h]; exact Nat.gcd_dvd_left k q)
theorem small_primes : ∀ q ∈ [2, 3, 5, 7, 11, 13, 31, 41, 61, 151, 331, 1321], 0 < q ∧ ∀ d, d < q + 1 → d ∣ q → d = 1 ∨ d = q := by decide +kernel
theorem QQ_parts : QQ = 2 * (3 * (3 * (5 * (5 * (7 * (11 * (13 * (31 * (41 * (61 * (151 * (331 * 1321)))))))))))) := by decide +kernel
/-- A divisor that none of the primes divides is 1. -/
theorem divides {k : Nat} (hk : k ∣ QQ) (h1 : k ≠ 1) : ∃ q ∈ [2, 3, 5, 7, 11, 13, 31, 41, 61, 151, 331, 1321], q ∣ k := by
  refine Classical.byContradiction fun hn => h1 ?_
  have hc : ∀ q ∈ [2, 3, 5, 7, 11, 13, 31, 41, 61, 151, 331, 1321], Nat.Coprime k q := fun q hq => by
    obtain ⟨a, b⟩ := small_primes q hq
    rcases coprime_or b a k with h | h
    · exact absurd ⟨q, hq, h⟩ hn
    · exact h
  have hQ : Nat.Coprime k QQ := by
    rw [QQ_parts]
    exact (hc 2 (by simp)).mul_right <| (hc 3 (by simp)).mul_right <| (hc 3 (by simp)).mul_right <| (hc 5 (by simp)).mul_right <| (hc 5 (by simp)).mul_right <| (hc 7 (by simp)).mul_right <| (hc 11 (by simp)).mul_right <|
      (hc 13 (by simp)).mul_right <| (hc 31 (by simp)).mul_right <| (hc 41 (by simp)).mul_right <| (hc 61 (by simp)).mul_right <| (hc 151 (by simp)).mul_right <| (hc 331 (by simp)).mul_right (hc 1321 (by simp))
  have := Nat.gcd_eq_left hk
  rw [hQ] at this
  exact this.symm

theorem pow_mod_mul (b a m n : Nat) (h : b ^ a % m = 1 % m) : b ^ (a * n) % m = 1 % m := by
  rw [Nat.pow_mul, Nat.pow_mod, h, ← Nat.pow_mod, Nat.one_pow]
theorem pow_mod_add {b m i j r s : Nat} (h1 : b ^ i % m = r) (h2 : b ^ j % m = s) : b ^ (i + j) % m = r * s % m := by
  rw [Nat.pow_add, Nat.mul_mod, h1, h2]
theorem one_mod : 1 % PP = 1 := Nat.mod_eq_of_lt PP_bd.2.2

/-- No lesser power of 37 is 1. -/
theorem g_order (d : Nat) (h0 : 0 < d) (hd : d < QQ) : G ^ d % PP ≠ 1 := by
  -- the least one
  have key : ∀ n d, d ≤ n → 0 < d → d < QQ → G ^ d % PP ≠ 1 := by
    intro n
    induction n with
    | zero => intro d h1 h2; omega
    | succ n ih =>
      intro d h1 h0 hd he
      have hr : G ^ (QQ % d) % PP = 1 := by
        have e := Nat.div_add_mod QQ d
        have hm := pow_mod_mul G d PP (QQ / d) (by rw [he, one_mod])
        rw [one_mod] at hm
        have h2 := pow_mod_add (m := PP) hm (rfl : G ^ (QQ % d) % PP = G ^ (QQ % d) % PP)
        rw [e, g_one, Nat.one_mul, Nat.mod_mod] at h2
        exact h2.symm
      rcases Nat.eq_zero_or_pos (QQ % d) with hz | hz
      · have hdv : d ∣ QQ := Nat.dvd_of_mod_eq_zero hz
        obtain ⟨k, hk⟩ := hdv
        have hk1 : k ≠ 1 := by rintro rfl; omega
        obtain ⟨q, hq, c, hc⟩ := divides (k := k) ⟨d, by rw [hk, Nat.mul_comm]⟩ hk1
        have hq0 : 0 < q := (small_primes q hq).1
        have e : QQ / q = d * c := by
          rw [hk, hc, Nat.mul_left_comm, Nat.mul_div_cancel_left _ hq0]
        refine g_not q hq ?_
        rw [e]
        have := pow_mod_mul G d PP c (by rw [he, one_mod])
        rw [one_mod] at this
        exact this
      · have hl := Nat.mod_lt QQ h0
        exact ih (QQ % d) (by omega) hz (by omega) hr
  exact key d d (Nat.le_refl _) h0 hd

/-- As many pigeons as holes. -/
theorem pigeon : ∀ (N : Nat) (f : Nat → Nat), (∀ i, i < N → f i < N) → (∀ i j, i < N → j < N → f i = f j → i = j) → ∀ y, y < N → ∃ i, i < N ∧ f i = y := by
  intro N
  induction N with
  | zero => intro f _ _ y hy; omega
  | succ N ih =>
    intro f hf hinj y hy
    have hv := hf N (by omega)
    have hg : ∀ i, i < N → (if f i = N then f N else f i) < N := by
      intro i hi
      have h1 := hf i (by omega)
      split
      · rename_i h
        have : f N ≠ N := fun e => by have := hinj i N (by omega) (by omega) (by rw [h, e]); omega
        omega
      · omega
    have hgi : ∀ i j, i < N → j < N → (if f i = N then f N else f i) = (if f j = N then f N else f j) → i = j := by
      intro i j hi hj h
      split at h <;> split at h
      · rename_i a b; exact hinj i j (by omega) (by omega) (by rw [a, b])
      · have := hinj N j (by omega) (by omega) h; omega
      · have := hinj i N (by omega) (by omega) h; omega
      · exact hinj i j (by omega) (by omega) h
    have sur := ih (fun i => if f i = N then f N else f i) hg hgi
    by_cases e : y = f N
    · exact ⟨N, by omega, e.symm⟩
    · by_cases e2 : y < N
      · obtain ⟨i, hi, hs⟩ := sur y e2
        split at hs
        · exact absurd hs.symm e
        · exact ⟨i, by omega, hs⟩
      · have ey : y = N := by omega
        obtain ⟨i, hi, hs⟩ := sur (f N) (by omega)
        split at hs
        · rename_i h; exact ⟨i, by omega, by rw [h, ey]⟩
        · have := hinj i N (by omega) (by omega) hs; omega

theorem QQ_PP : PP = QQ + 1 := by decide +kernel
theorem g_inv (i : Nat) (hi : i ≤ QQ) : G ^ i % PP * (G ^ (QQ - i) % PP) % PP = 1 := by
  rw [← Nat.mul_mod, ← Nat.pow_add, show i + (QQ - i) = QQ from by omega]
  exact g_one
theorem g_pos (i : Nat) (hi : i ≤ QQ) : 0 < G ^ i % PP := by
  rcases Nat.eq_zero_or_pos (G ^ i % PP) with h | h
  · have := g_inv i hi
    rw [h, Nat.zero_mul, Nat.zero_mod] at this
    omega
  · exact h
/-- Each number that is no multiple is a power of 37. -/
theorem g_log (a : Nat) (ha : a % PP ≠ 0) : ∃ i, i < QQ ∧ G ^ i % PP = a % PP := by
  have hP := PP_bd
  have hl := Nat.mod_lt a (show 0 < PP by omega)
  have hQ := QQ_PP
  obtain ⟨i, hi, he⟩ := pigeon QQ (fun i => G ^ i % PP - 1) (fun i hi => by
    have h1 := Nat.mod_lt (G ^ i) (show 0 < PP by omega)
    have h2 := g_pos i (by omega)
    show G ^ i % PP - 1 < QQ
    omega) (fun i j hi hj h => by
      have h1 := g_pos i (by omega)
      have h2 := g_pos j (by omega)
      have h : G ^ i % PP = G ^ j % PP := by
        have h : G ^ i % PP - 1 = G ^ j % PP - 1 := h
        omega
      -- the lesser one taken away
      have lem : ∀ i j, i < j → j < QQ → G ^ i % PP = G ^ j % PP → False := by
        intro i j hij hj h
        have hi := g_inv i (by omega)
        rw [h, ← Nat.mul_mod, ← Nat.pow_add, show j + (QQ - i) = (j - i) + QQ from by omega, Nat.pow_add, Nat.mul_mod, g_one, Nat.mul_one, Nat.mod_mod] at hi
        exact g_order (j - i) (by omega) (by omega) hi
      rcases Nat.lt_trichotomy i j with hij | hij | hij
      · exact (lem i j hij hj h).elim
      · exact hij
      · exact (lem j i hij hi h.symm).elim) (a % PP - 1) (by omega)
  have h2 := g_pos i (by omega)
  have he : G ^ i % PP - 1 = a % PP - 1 := he
  exact ⟨i, hi, by omega⟩
/-- Fermat's. -/
theorem fermat (a : Nat) (ha : a % PP ≠ 0) : a ^ QQ % PP = 1 := by
  obtain ⟨i, _, hi⟩ := g_log a ha
  rw [Nat.pow_mod, ← hi, ← Nat.pow_mod, ← Nat.pow_mul, Nat.mul_comm]
  have := pow_mod_mul G QQ PP i (by rw [g_one, one_mod])
  rw [one_mod] at this
  exact this
end Go.Proofs.YtcnmoallgfdomaaDoor
