/- What this text proves: what is signed is right, and a signature that is shifted is not. The condition is the secret's range. -/
import Derived.Test.YtcnmoallgfdomaaDoorSgSign
import Derived.Test.YtcnmoallgfdomaaDoorFermat
namespace Go.Proofs.YtcnmoallgfdomaaDoor
open Go.RowKit
set_option linter.unusedVariables false
set_option linter.unusedSimpArgs false

theorem g_modQ (x : Nat) : G ^ (x % QQ) % PP = G ^ x % PP := by
  have h1 := pow_mod_mul G QQ PP (x / QQ) (by rw [g_one, one_mod])
  have h2 : G ^ (QQ * (x / QQ) + x % QQ) % PP = 1 % PP * (G ^ (x % QQ) % PP) % PP := pow_mod_add h1 rfl
  rw [Nat.div_add_mod] at h2
  rw [h2, one_mod, Nat.one_mul, Nat.mod_mod]
theorem nonceK_lt (s : Nat) (m : List UInt8) : nonceK s m < QQ := by
  have := numN_lt (digF (1 :: (wordB s ++ m)))
  unfold nonceK nonce
  have : 1 < QQ := by decide
  omega
theorem g_in {i : Nat} (hi : i ≤ QQ) : inR (37 ^ i % PP) = true := by
  unfold inR
  exact decide_eq_true ⟨g_pos i hi, Nat.mod_lt _ (by decide)⟩
theorem sig_eq (s : Nat) (m : List UInt8) (h : 1 ≤ s ∧ s < QQ) : 37 ^ sigS s m % PP = sigR s m * ((37 ^ s % PP) ^ chal (sigR s m) (37 ^ s % PP) m % PP) % PP := by
  rw [show sigR s m = 37 ^ nonceK s m % PP from if_pos h, show sigS s m = (nonceK s m + chal (37 ^ nonceK s m % PP) (37 ^ s % PP) m * s % QQ) % QQ from if_pos h]
  obtain ⟨K, hK⟩ : ∃ K, nonceK s m = K := ⟨_, rfl⟩
  rw [hK]
  obtain ⟨E, hE⟩ : ∃ E, chal (37 ^ K % PP) (37 ^ s % PP) m = E := ⟨_, rfl⟩
  rw [hE]
  have e1 : 37 ^ ((K + E * s % QQ) % QQ) % PP = 37 ^ (K + E * s) % PP := by
    have a := g_modQ (K + E * s % QQ)
    have b := g_modQ (K + E * s)
    unfold G at a b
    rw [show (K + E * s % QQ) % QQ = (K + E * s) % QQ from by rw [Nat.add_mod, Nat.mod_mod, ← Nat.add_mod]] at a ⊢
    rw [b]
  rw [e1, ← Nat.pow_mod, ← Nat.pow_mul, Nat.mul_comm s E, Nat.pow_add, Nat.mul_mod]
theorem verF_signed (s : Nat) (m : List UInt8) (h : 1 ≤ s ∧ s < QQ) : verF (37 ^ s % PP) m (sigR s m) (sigS s m) = true := by
  have h1 : inR (37 ^ s % PP) = true := g_in (Nat.le_of_lt h.2)
  have h2 : inR (sigR s m) = true := by rw [show sigR s m = 37 ^ nonceK s m % PP from if_pos h]; exact g_in (Nat.le_of_lt (nonceK_lt s m))
  have h3 : sigS s m < QQ := by rw [show sigS s m = (nonceK s m + chal (37 ^ nonceK s m % PP) (37 ^ s % PP) m * s % QQ) % QQ from if_pos h]; exact Nat.mod_lt _ (by decide)
  have h4 := sig_eq s m h
  unfold verF
  rw [h1, h2, decide_eq_true h3, decide_eq_true h4]
  rfl
theorem g_next (S : Nat) (hS : S < QQ) : 37 ^ ((S + 1) % QQ) % PP ≠ 37 ^ S % PP := fun e => by
  have a := g_modQ (S + 1)
  unfold G at a
  rw [a] at e
  have hinv := g_inv S (Nat.le_of_lt hS)
  unfold G at hinv
  have h1 : 37 ^ (S + 1) % PP * (37 ^ (QQ - S) % PP) % PP = 37 := by
    rw [Nat.pow_succ, ← Nat.mul_mod, Nat.mul_right_comm, Nat.mul_mod, Nat.mul_mod (37 ^ S), hinv]
    decide
  rw [e, hinv] at h1
  omega
theorem verF_next (s : Nat) (m : List UInt8) (h : 1 ≤ s ∧ s < QQ) : verF (37 ^ s % PP) m (sigR s m) ((sigS s m + 1) % QQ) = false := by
  have h3 : sigS s m < QQ := by rw [show sigS s m = (nonceK s m + chal (37 ^ nonceK s m % PP) (37 ^ s % PP) m * s % QQ) % QQ from if_pos h]; exact Nat.mod_lt _ (by decide)
  have h4 := sig_eq s m h
  have h5 := g_next _ h3
  rw [h4] at h5
  unfold verF
  rw [decide_eq_false h5]
  simp
theorem verF_big {key : Nat} {m : List UInt8} {R S : Nat} (h : QQ ≤ S) : verF key m R S = false := by
  unfold verF
  rw [decide_eq_false (Nat.not_lt.2 h)]
  simp
theorem verF_r {key : Nat} {m : List UInt8} {R S : Nat} (h : R = 0 ∨ PP ≤ R) : verF key m R S = false := by
  have : inR R = false := by unfold inR; exact decide_eq_false (by omega)
  simp [verF, this]
theorem verF_key {key : Nat} {m : List UInt8} {R S : Nat} (h : key = 0 ∨ PP ≤ key) : verF key m R S = false := by
  have : inR key = false := by unfold inR; exact decide_eq_false (by omega)
  simp [verF, this]
end Go.Proofs.YtcnmoallgfdomaaDoor
