/- What this text proves: a digest, block by block, as the reference reckons it. The condition is that the bytes are not too many. -/
import Derived.Test.YtdeikpifflkabaaDoorRefBlakeC
namespace Go.Proofs.YtdeikpifflkabaaDoor
open Go.RowKit
set_option linter.unusedVariables false
set_option linter.unusedSimpArgs false

/-- H behind j whole blocks. -/
def HF (l : List UInt8) : Nat → List Int
  | 0 => hNew
  | j + 1 => compress (HF l j) ((l.drop (64 * j)).take 64) ((64 * (j + 1) : Nat) : Int) false
/-- A block, filled up. -/
def padB (l : List UInt8) : List UInt8 := l.take 64 ++ List.replicate (64 - l.length) 0
theorem padB_len (l : List UInt8) : (padB l).length = 64 := by simp [padB]; omega
theorem HF_len (l : List UInt8) : ∀ j, (HF l j).length = 8
  | 0 => rfl
  | j + 1 => by rw [HF, compress_len, HF_len l j]
/-- The last block's number. -/
def lastF (l : List UInt8) : Nat := (l.length - 1) / 64
def HL (l : List UInt8) : List Int := compress (HF l (lastF l)) (padB (l.drop (64 * lastF l))) (l.length : Int) true
structure WInv (l : List UInt8) (p : Nat) (s : BSt) (q m : Nat) : Prop where
  pq : p = 64 * q + m
  ml : m ≤ 64
  m1 : 1 ≤ m ∨ p = 0
  sh : s.h = HF l q
  sn : s.n = m
  sd : s.done = ((64 * q : Nat) : Int)
  sl : s.b.length = 64
  sb : s.b.take m = (l.drop (64 * q)).take m
theorem take_set_succ {α : Type} {l : List α} {m : Nat} {c : α} (h : m < l.length) : (l.set m c).take (m + 1) = l.take m ++ [c] := by
  rw [List.take_add_one, List.getElem?_set_self h, List.take_set, List.set_eq_of_length_le (by simp; omega)]
  rfl
theorem WInv.step {l : List UInt8} {p : Nat} {s : BSt} {q m : Nat} (h : WInv l p s q m) {c : UInt8} (hc : l[p]? = some c) (hp : l.length < 9223372036854775808) : ∃ q' m', WInv l (p + 1) (byteF s c) q' m' := by
  have hlt : p < l.length := (List.getElem?_eq_some_iff.1 hc).1
  by_cases e : m = 64
  · refine ⟨q + 1, 1, by have := h.pq; omega, by omega, .inl (by omega), ?_, ?_, ?_, ?_, ?_⟩
    all_goals
      have hn : s.n = 64 := by rw [h.sn, e]
      have hd : (s.done + 64) % 18446744073709551616 = ((64 * (q + 1) : Nat) : Int) := by
        have := h.sd
        have := h.pq
        omega
      have hf : fullF s = { s with done := ((64 * (q + 1) : Nat) : Int), h := HF l (q + 1), n := 0 } := by
        unfold fullF
        rw [if_pos hn, hd, HF, h.sh]
        have hb : s.b = (l.drop (64 * q)).take 64 := by
          have := h.sb
          rw [e, List.take_of_length_le (by rw [h.sl]; omega)] at this
          exact this
        rw [hb]
      simp only [byteF, hf]
    · simp [h.sl]
    · rw [show 1 = 0 + 1 from rfl, take_set_succ (by rw [h.sl]; omega), List.take_zero, List.nil_append]
      have hc' : (l.drop (64 * (q + 1)))[0]? = some c := by rw [List.getElem?_drop, ← hc]; congr 1; have := h.pq; omega
      rw [take_at hc', List.take_zero, List.nil_append]
  · have hm : m < 64 := by have := h.ml; omega
    have hn : s.n ≠ 64 := by rw [h.sn]; exact e
    have hf : fullF s = s := by unfold fullF; rw [if_neg hn]
    refine ⟨q, m + 1, by have := h.pq; omega, by omega, .inl (by omega), ?_, ?_, ?_, ?_, ?_⟩
    all_goals simp only [byteF, hf]
    · exact h.sh
    · rw [h.sn]
    · exact h.sd
    · simp [h.sl]
    · rw [h.sn, take_set_succ (by rw [h.sl]; exact hm), h.sb]
      have hc' : (l.drop (64 * q))[m]? = some c := by rw [List.getElem?_drop, ← hc]; congr 1; have := h.pq; omega
      rw [take_at hc']
theorem WInv.all {l : List UInt8} (hl : l.length < 9223372036854775808) : ∀ p, p ≤ l.length → ∃ q m, WInv l p (writeF BSt.new (l.take p)) q m
  | 0, _ => ⟨0, 0, rfl, by omega, .inr rfl, rfl, rfl, rfl, rfl, by simp⟩
  | p + 1, hp => by
    obtain ⟨q, m, h⟩ := WInv.all hl p (by omega)
    obtain ⟨c, hc⟩ : ∃ c, l[p]? = some c := ⟨_, List.getElem?_eq_getElem (by omega)⟩
    rw [take_at hc, ← writeF_append]
    exact h.step hc hl
theorem digF_blocks (l : List UInt8) (hl : l.length < 9223372036854775808) : digF l = (List.range 32).map (outF (HL l)) := by
  obtain ⟨q, m, h⟩ := WInv.all hl l.length (Nat.le_refl _)
  rw [List.take_length] at h
  unfold digF sumF
  have hq : lastF l = q := by
    unfold lastF
    have h1 := h.pq
    have h2 := h.ml
    rcases h.m1 with h3 | h3 <;> omega
  have hlen : (l.drop (64 * q)).length = m := by rw [List.length_drop]; have := h.pq; omega
  have hpad : (padF (writeF BSt.new l)).b = padB (l.drop (64 * q)) := by
    simp only [padF, padB]
    rw [h.sn, h.sb, hlen, List.take_of_length_le (by omega), List.take_of_length_le (by have := h.ml; omega)]
  have hd : (padF (writeF BSt.new l)).done = (l.length : Int) := by
    simp only [padF]
    rw [h.sn, h.sd]
    have := h.pq
    omega
  rw [hpad, hd, show (padF (writeF BSt.new l)).h = HF l q from h.sh, HL, hq]
/-- H behind j rounds of the reference. -/
def HR (l : List UInt8) (j : Nat) : List Int := if j ≤ lastF l then HF l j else HL l
theorem HR_zero (l : List UInt8) : HR l 0 = hNew := by unfold HR; rw [if_pos (by omega)]; rfl
theorem HR_len (l : List UInt8) (j : Nat) : (HR l j).length = 8 := by
  unfold HR
  split
  · exact HF_len l j
  · rw [HL, compress_len, HF_len]
theorem HR_end (l : List UInt8) : HR l (lastF l + 1) = HL l := by unfold HR; rw [if_neg (by omega)]
theorem HR_step (l : List UInt8) (j : Nat) (hj : j ≤ lastF l) (e : Nat) (he : e = if 64 * j + 64 ≥ l.length then l.length else 64 * j + 64) :
    compress (HR l j) (padB ((l.drop (64 * j)).take (e - 64 * j))) (e : Int) (decide (e = l.length)) = HR l (j + 1) := by
  have h0 : HR l j = HF l j := by unfold HR; rw [if_pos hj]
  rw [h0]
  by_cases hq : j = lastF l
  · subst hq
    have hge : 64 * lastF l + 64 ≥ l.length := by unfold lastF; omega
    rw [if_pos hge] at he
    subst he
    rw [HR_end, HL, decide_eq_true rfl, List.take_of_length_le (by rw [List.length_drop]; exact Nat.le_refl _)]
  · have hlt : 64 * j + 64 < l.length := by unfold lastF at hj hq; omega
    rw [if_neg (by omega)] at he
    subst he
    have h1 : HR l (j + 1) = HF l (j + 1) := by unfold HR; rw [if_pos (by omega)]
    rw [h1, HF, decide_eq_false (by omega), show 64 * j + 64 - 64 * j = 64 by omega]
    have hl64 : ((l.drop (64 * j)).take 64).length = 64 := by simp; omega
    have : padB ((l.drop (64 * j)).take 64) = (l.drop (64 * j)).take 64 := by
      rw [padB, hl64, List.take_of_length_le (by omega)]; simp
    rw [this]
    rfl
theorem lastF_at (l : List UInt8) (j : Nat) (hj : j ≤ lastF l + 1) : (j = 0 ∨ 64 * j < l.length) ↔ j ≤ lastF l := by unfold lastF at *; omega
theorem last_lt (l : List UInt8) (j : Nat) (hj : j ≤ lastF l) : 64 * j ≤ l.length := by unfold lastF at hj; omega
end Go.Proofs.YtdeikpifflkabaaDoor
