/- What this text proves: plain facts on the frames of a log's records: what is written so is scanned so, what is scanned was written so, and what a beginning of frames bears. No program in sight. No condition. -/
import Derived.WalkKit
namespace Go.Proofs.YtpmmojjffjpmbaaDoor
set_option linter.unusedVariables false
set_option linter.unusedSimpArgs false

def hdrW (r : List UInt8) : List UInt8 := [UInt8.ofNat (r.length / 256), UInt8.ofNat r.length]
section
variable (ck : List UInt8 → List UInt8)
/-- A record's frame; ck: its check. -/
def frameF (r : List UInt8) : List UInt8 := hdrW r ++ (ck r ++ r)
def framesF (l : List (List UInt8)) : List UInt8 := l.flatMap (frameF ck)
def lenW (b : List UInt8) : Nat := (b.getD 0 0).toNat * 256 + (b.getD 1 0).toNat
def recW (b : List UInt8) : List UInt8 := (b.drop 6).take (lenW b)
/-- The first record of bytes. -/
def scan1 (b : List UInt8) : Option (List UInt8) :=
  if 6 ≤ b.length ∧ 0 < lenW b ∧ lenW b ≤ 4096 ∧ lenW b + 6 ≤ b.length ∧ frameF ck (recW b) = b.take (lenW b + 6) then some (recW b) else none
def scanF : Nat → List UInt8 → List (List UInt8)
  | 0, _ => []
  | k + 1, b => match scan1 ck b with
    | none => []
    | some r => r :: scanF k (b.drop (6 + r.length))
def scanW (b : List UInt8) : List (List UInt8) := scanF ck b.length b
def goodR (r : List UInt8) : Prop := 0 < r.length ∧ r.length ≤ 4096
end
section
variable {ck : List UInt8 → List UInt8}
theorem frameF_len (hc : ∀ r, (ck r).length = 4) (r : List UInt8) : (frameF ck r).length = 6 + r.length := by simp [frameF, hdrW, hc]; omega
theorem u8w_of (n : Nat) : (UInt8.ofNat n).toNat = n % 256 := by simp
theorem lenW_frame (r x : List UInt8) (hr : r.length ≤ 4096) : lenW (frameF ck r ++ x) = r.length := by
  simp only [lenW, frameF, hdrW, List.cons_append, List.nil_append, List.getD_cons_zero, List.getD_cons_succ, u8w_of]
  omega
theorem recW_frame (hc : ∀ r, (ck r).length = 4) (r x : List UInt8) (hr : r.length ≤ 4096) : recW (frameF ck r ++ x) = r := by
  unfold recW
  rw [lenW_frame r x hr]
  have h : frameF ck r ++ x = (hdrW r ++ ck r) ++ (r ++ x) := by simp [frameF]
  rw [h, List.drop_append_of_le_length (by simp [hdrW, hc])]
  have h6 : (hdrW r ++ ck r).drop 6 = [] := List.drop_eq_nil_of_le (by simp [hdrW, hc])
  rw [h6, List.nil_append, List.take_left']
  rfl
theorem scan1_frame (hc : ∀ r, (ck r).length = 4) {r : List UInt8} (hg : goodR r) (x : List UInt8) : scan1 ck (frameF ck r ++ x) = some r := by
  have h1 := lenW_frame (ck := ck) r x hg.2
  have h2 := recW_frame hc r x hg.2
  have h3 := frameF_len hc r
  have hp := hg.1
  have hq := hg.2
  unfold scan1
  rw [h1, h2, if_pos]
  refine ⟨by simp [h3]; omega, hp, hq, by simp [h3]; omega, ?_⟩
  rw [List.take_left']
  rw [h3]; omega
theorem scan1_some {b r : List UInt8} (h : scan1 ck b = some r) : goodR r ∧ b = frameF ck r ++ b.drop (6 + r.length) ∧ 6 + r.length ≤ b.length ∧ r = recW b ∧ lenW b = r.length := by
  unfold scan1 at h
  split at h
  · rename_i hh
    obtain ⟨h1, h2, h3, h4, h5⟩ := hh
    injection h with h
    have hl : r.length = lenW b := by rw [← h]; simp [recW]; omega
    refine ⟨⟨by omega, by omega⟩, ?_, by omega, h.symm, hl.symm⟩
    rw [← h, h5, show 6 + (recW b).length = lenW b + 6 from by rw [h, hl]; omega, List.take_append_drop]
  · cases h
theorem scan1_none_short {b : List UInt8} (h : b.length < 6) : scan1 ck b = none := by
  unfold scan1
  rw [if_neg (by omega)]
theorem scanF_more : ∀ (k : Nat) (b : List UInt8), b.length ≤ k → scanF ck k b = scanF ck b.length b := by
  intro k
  induction k using Nat.strongRecOn with
  | _ k ih =>
    intro b hb
    cases k with
    | zero =>
      have : b = [] := List.eq_nil_of_length_eq_zero (by omega)
      subst this; rfl
    | succ k =>
      cases hs : scan1 ck b with
      | none =>
        cases hl : b.length with
        | zero => simp only [scanF, hs]
        | succ j => simp only [scanF, hs]
      | some r =>
        obtain ⟨hg, _, hle, _⟩ := scan1_some hs
        obtain ⟨j, hj⟩ : ∃ j, b.length = j + 1 := ⟨b.length - 1, by omega⟩
        rw [hj]
        simp only [scanF, hs]
        rw [ih k (by omega) _ (by simp; omega), ← ih j (by omega) _ (by simp; omega)]
theorem scanW_none {b : List UInt8} (h : scan1 ck b = none) : scanW ck b = [] := by
  unfold scanW
  cases hl : b.length with
  | zero => rfl
  | succ j => simp only [scanF, h]
theorem scanW_some {b r : List UInt8} (h : scan1 ck b = some r) : scanW ck b = r :: scanW ck (b.drop (6 + r.length)) := by
  obtain ⟨hg, _, hle, _⟩ := scan1_some h
  obtain ⟨j, hj⟩ : ∃ j, b.length = j + 1 := ⟨b.length - 1, by omega⟩
  unfold scanW
  rw [hj]
  simp only [scanF, h]
  rw [scanF_more j _ (by simp; omega)]
theorem framesF_cons (r : List UInt8) (l : List (List UInt8)) : framesF ck (r :: l) = frameF ck r ++ framesF ck l := rfl
theorem framesF_append (l m : List (List UInt8)) : framesF ck (l ++ m) = framesF ck l ++ framesF ck m := by simp [framesF, List.flatMap_append]
theorem framesF_snoc (l : List (List UInt8)) (r : List UInt8) : framesF ck (l ++ [r]) = framesF ck l ++ frameF ck r := by rw [framesF_append]; simp [framesF]
theorem scanW_frame (hc : ∀ r, (ck r).length = 4) {r : List UInt8} (hg : goodR r) (x : List UInt8) : scanW ck (frameF ck r ++ x) = r :: scanW ck x := by
  rw [scanW_some (scan1_frame hc hg x)]
  congr 2
  rw [List.drop_left']
  rw [frameF_len hc]
theorem scanW_frames (hc : ∀ r, (ck r).length = 4) : ∀ (l : List (List UInt8)) (x : List UInt8), (∀ r ∈ l, goodR r) → scanW ck (framesF ck l ++ x) = l ++ scanW ck x := by
  intro l x
  induction l with
  | nil => intro _; rfl
  | cons r l ih =>
    intro h
    rw [framesF_cons, List.append_assoc, scanW_frame hc (h r (by simp)), ih (fun q hq => h q (by simp [hq])), List.cons_append]
/-- Bytes are the frames of their records, and a rest without one. -/
theorem scanW_split : ∀ (n : Nat) (b : List UInt8), b.length ≤ n → (∀ r ∈ scanW ck b, goodR r) ∧ ∃ x, b = framesF ck (scanW ck b) ++ x ∧ scan1 ck x = none := by
  intro n
  induction n with
  | zero =>
    intro b hb
    have : b = [] := List.eq_nil_of_length_eq_zero (by omega)
    subst this
    have h0 : scan1 ck ([] : List UInt8) = none := scan1_none_short (by simp)
    rw [scanW_none h0]
    exact ⟨by simp, [], rfl, h0⟩
  | succ n ih =>
    intro b hb
    cases hs : scan1 ck b with
    | none => rw [scanW_none hs]; exact ⟨by simp, b, rfl, hs⟩
    | some r =>
      obtain ⟨hg, he, hle, _⟩ := scan1_some hs
      obtain ⟨h1, x, h2, h3⟩ := ih (b.drop (6 + r.length)) (by simp; omega)
      rw [scanW_some hs]
      refine ⟨fun q hq => ?_, x, ?_, h3⟩
      · rcases List.mem_cons.1 hq with rfl | hq
        · exact hg
        · exact h1 q hq
      · rw [framesF_cons, List.append_assoc, ← h2]
        exact he
theorem scanW_good (b : List UInt8) : ∀ r ∈ scanW ck b, goodR r := (scanW_split b.length b (Nat.le_refl _)).1
theorem scanW_rest (b : List UInt8) : ∃ x, b = framesF ck (scanW ck b) ++ x ∧ scan1 ck x = none := (scanW_split b.length b (Nat.le_refl _)).2
theorem scanW_take (b : List UInt8) : b.take (framesF ck (scanW ck b)).length = framesF ck (scanW ck b) ∧ (framesF ck (scanW ck b)).length ≤ b.length := by
  obtain ⟨x, h, _⟩ := scanW_rest (ck := ck) b
  have h2 := congrArg List.length h
  rw [List.length_append] at h2
  refine ⟨?_, by omega⟩
  have h3 : List.take (framesF ck (scanW ck b)).length (framesF ck (scanW ck b) ++ x) = framesF ck (scanW ck b) := List.take_left' rfl
  rwa [← h] at h3
/-- What was scanned, written anew, is scanned so; of more bytes at least so much. -/
theorem scanW_again (hc : ∀ r, (ck r).length = 4) (b x : List UInt8) : scanW ck (framesF ck (scanW ck b) ++ x) = scanW ck b ++ scanW ck x := scanW_frames hc _ x (scanW_good b)
theorem scanW_nil : scanW ck ([] : List UInt8) = [] := rfl
theorem scanW_again0 (hc : ∀ r, (ck r).length = 4) (b : List UInt8) : scanW ck (framesF ck (scanW ck b)) = scanW ck b := by
  have := scanW_again (ck := ck) hc b []
  rwa [List.append_nil, scanW_nil, List.append_nil] at this
/-- A beginning of frames bears the first so many records, and all whose frames lie in it. -/
theorem scanW_prefix (hc : ∀ r, (ck r).length = 4) : ∀ (l : List (List UInt8)) (p : List UInt8), (∀ r ∈ l, goodR r) → p <+: framesF ck l → ∃ j, j ≤ l.length ∧ scanW ck p = l.take j ∧ ∀ i, i ≤ l.length → (framesF ck (l.take i)).length ≤ p.length → i ≤ j := by
  intro l
  induction l with
  | nil =>
    intro p _ hp
    have : p = [] := by simpa [framesF] using hp
    subst this
    exact ⟨0, by simp, rfl, fun i hi _ => by simpa using hi⟩
  | cons r l ih =>
    intro p hg hp
    have hgr := hg r (by simp)
    have hlr := frameF_len hc r
    rw [framesF_cons] at hp
    rcases Nat.lt_or_ge p.length (frameF ck r).length with hlt | hge
    · have hpp : p <+: frameF ck r := by
        rcases List.prefix_append_right_inj .. |>.2 (List.prefix_refl _) with _
        exact List.prefix_of_prefix_length_le hp (List.prefix_append _ _) (by omega)
      have hn : scan1 ck p = none := by
        rcases Nat.lt_or_ge p.length 6 with h6 | h6
        · exact scan1_none_short h6
        · obtain ⟨y, hy⟩ := hpp
          have hl2 : lenW p = r.length := by
            have e := lenW_frame (ck := ck) r [] hgr.2
            rw [List.append_nil, ← hy] at e
            rw [← e]
            unfold lenW
            simp only [List.getD_eq_getElem?_getD]
            rw [List.getElem?_append_left (by omega), List.getElem?_append_left (by omega)]
          unfold scan1
          rw [if_neg (by rw [hl2]; omega)]
      refine ⟨0, by omega, by rw [scanW_none hn]; rfl, fun i hi hle => ?_⟩
      cases i with
      | zero => exact Nat.le_refl _
      | succ i =>
        rw [List.take_succ_cons, framesF_cons, List.length_append] at hle
        omega
    · obtain ⟨q, rfl⟩ : ∃ q, p = frameF ck r ++ q := by
        have := List.prefix_of_prefix_length_le (List.prefix_append (frameF ck r) (framesF ck l)) hp hge
        obtain ⟨q, hq⟩ := this
        exact ⟨q, hq.symm⟩
      obtain ⟨j, h1, h2, h3⟩ := ih q (fun z hz => hg z (by simp [hz])) ((List.prefix_append_right_inj _).1 hp)
      refine ⟨j + 1, by simp; omega, by rw [scanW_frame hc hgr, h2]; rfl, fun i hi hle => ?_⟩
      cases i with
      | zero => omega
      | succ i =>
        rw [List.take_succ_cons, framesF_cons, List.length_append, List.length_append] at hle
        have := h3 i (by simp at hi; omega) (by omega)
        omega
theorem framesF_take_prefix (l : List (List UInt8)) (j : Nat) : framesF ck (l.take j) <+: framesF ck l := by
  refine ⟨framesF ck (l.drop j), ?_⟩
  rw [← framesF_append, List.take_append_drop]
end
end Go.Proofs.YtpmmojjffjpmbaaDoor
