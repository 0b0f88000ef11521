/- What this text proves: plain facts on lists of validators by rising keys: each key's power behind changes; lists that are right and give each key the same power are one. No condition but what each theorem names. -/
import Derived.Test.YtlocapkofmpebaaVsMath
namespace Go.Proofs.Ytlocapkofmpebaa
open Go.RowKit
set_option linter.unusedVariables false
set_option linter.unusedSimpArgs false

theorem hasV_nil (k : Int) : hasV [] k = false := rfl
theorem hasV_cons (v : Int × Int) (l : VL) (k : Int) : hasV (v :: l) k = ((v.1 == k) || hasV l k) := rfl
theorem powerV_no : ∀ {l : VL} {k : Int}, hasV l k = false → powerV l k = 0 := by
  intro l k
  induction l with
  | nil => intro _; rfl
  | cons v l ih =>
    intro h
    rw [hasV_cons, Bool.or_eq_false_iff] at h
    rw [powerV, if_neg (by simpa using h.1), ih h.2]
theorem powerV_append (a b : VL) (k : Int) : powerV (a ++ b) k = if hasV a k = true then powerV a k else powerV b k := by
  induction a with
  | nil => simp [hasV_nil]
  | cons v a ih =>
    rw [List.cons_append, powerV, powerV, hasV_cons]
    by_cases h : v.1 = k
    · simp [h]
    · rw [if_neg h, if_neg h, ih]
      simp [h]
theorem hasV_filter (l : VL) (P : Int → Bool) (k : Int) : hasV (l.filter fun v => P v.1) k = (P k && hasV l k) := by
  induction l with
  | nil => simp [hasV]
  | cons v l ih =>
    rw [List.filter_cons, hasV_cons]
    by_cases h : v.1 = k
    · subst h
      cases hp : P v.1
      · rw [hp] at ih; simpa using ih
      · simp [hasV_cons]
    · have hk : (v.1 == k) = false := by simpa using h
      cases hp : P v.1
      · simpa [hk] using ih
      · simp only [↓reduceIte, hasV_cons, hk, Bool.false_or]; exact ih
theorem powerV_filter (l : VL) (P : Int → Bool) (k : Int) : powerV (l.filter fun v => P v.1) k = if P k = true then powerV l k else 0 := by
  induction l with
  | nil => simp [powerV]
  | cons v l ih =>
    rw [List.filter_cons]
    by_cases h : v.1 = k
    · subst h
      cases hp : P v.1
      · rw [hp] at ih; simpa using ih
      · simp [powerV]
    · cases hp : P v.1
      · simpa [powerV, h] using ih
      · simp only [↓reduceIte, powerV, if_neg h]; exact ih
theorem powerV_lo (l : VL) (k key : Int) : powerV (lo l k) key = if key < k then powerV l key else 0 := by
  have := powerV_filter l (fun x => decide (x < k)) key
  simpa [lo] using this
theorem powerV_hi (l : VL) (k key : Int) : powerV (hi l k) key = if k < key then powerV l key else 0 := by
  have := powerV_filter l (fun x => decide (k < x)) key
  simpa [hi] using this
theorem hasV_lo (l : VL) (k key : Int) : hasV (lo l k) key = (decide (key < k) && hasV l key) := hasV_filter l (fun x => decide (x < k)) key
theorem powerV_put (l m : VL) (k key : Int) : powerV (lo l k ++ m ++ hi l k) key = if key < k then (if hasV l key = true then powerV l key else powerV m key) else if hasV m key = true then powerV m key else if k < key then powerV l key else 0 := by
  rw [List.append_assoc, powerV_append, powerV_append, hasV_lo, powerV_lo, powerV_hi]
  by_cases h : key < k
  · simp only [h, decide_true, Bool.true_and, if_true, if_pos]
    by_cases h2 : hasV l key = true
    · simp [h2]
    · have h3 : ¬ k < key := by omega
      simp only [h2, if_false, h3]
      by_cases h4 : hasV m key = true
      · simp [h4]
      · rw [if_neg h4, powerV_no (l := m) (by simpa using h4)]
  · simp [h]
theorem powerV_step {l l' : VL} {k p : Int} (h : stepV l k p = .ok l') (key : Int) : powerV l' key = if k = key then p else powerV l key := by
  unfold stepV at h
  split at h
  · cases h
  · split at h
    · rename_i hp
      split at h
      · cases h
        have h1 := powerV_put l [] k key
        rw [List.append_nil] at h1
        rw [h1]
        by_cases h2 : key < k
        · rw [if_pos h2, if_neg (show ¬ k = key by omega)]
          by_cases h3 : hasV l key = true
          · rw [if_pos h3]
          · rw [if_neg h3, powerV_no (l := l) (by simpa using h3)]; rfl
        · rw [if_neg h2, hasV_nil]
          by_cases h3 : k = key
          · rw [if_pos h3]; simp; omega
          · rw [if_neg h3]; simp; omega
      · cases h
    · cases h
      have h1 := powerV_put l [(k, p)] k key
      rw [List.append_assoc, List.singleton_append] at h1
      rw [h1]
      by_cases h2 : key < k
      · have h4 : ¬ k = key := by omega
        rw [if_pos h2, if_neg h4]
        by_cases h3 : hasV l key = true
        · rw [if_pos h3]
        · rw [if_neg h3, powerV_no (l := l) (by simpa using h3)]; simp [powerV, h4]
      · rw [if_neg h2, hasV_cons, hasV_nil]
        by_cases h3 : k = key
        · simp [h3, powerV]
        · have h4 : (k == key) = false := by simpa using h3
          have h5 : k < key := by omega
          simp [h4, h3, h5]
/-- Each key's power behind changes. -/
def wantV : Int → VL → Int → Int
  | n, [], _ => n
  | n, c :: cs, key => wantV (if c.1 = key then c.2 else n) cs key
theorem powerV_upd : ∀ {cs l l' : VL} (h : updV l cs = .ok l') (key : Int), powerV l' key = wantV (powerV l key) cs key := by
  intro cs
  induction cs with
  | nil => intro l l' h key; cases h; rfl
  | cons c cs ih =>
    intro l l' h key
    rw [updV] at h
    cases hs : stepV l c.1 c.2 with
    | error n => rw [hs] at h; cases h
    | ok m =>
      rw [hs] at h
      rw [ih h key, powerV_step hs key, wantV]

/-- What Update answers with no error. -/
theorem updateV_ok {l cs a : VL} (h : updateV l cs = (a, 0)) : rightV l = true ∧ updV l cs = .ok a ∧ rightV a = true := by
  unfold updateV at h
  split at h
  · rename_i hr
    cases hu : updV l cs with
    | error n =>
      rw [hu] at h
      simp only [Prod.mk.injEq] at h
      have : n = 72 ∨ n = 73 := by
        clear h hr
        induction cs generalizing l with
        | nil => cases hu
        | cons c cs ih =>
          rw [updV] at hu
          cases hs : stepV l c.1 c.2 with
          | error n' =>
            rw [hs] at hu
            cases hu
            unfold stepV at hs
            split at hs
            · cases hs; exact .inl rfl
            · split at hs
              · split at hs
                · cases hs
                · cases hs; exact .inr rfl
              · cases hs
          | ok m => rw [hs] at hu; exact ih hu
      omega
    | ok m =>
      rw [hu] at h
      simp only [endV] at h
      split at h
      · split at h
        · rename_i h2 h3
          cases h
          exact ⟨hr, rfl, h3⟩
        · simp at h
      · simp at h
  · simp at h
theorem updateV_bad {l cs : VL} (h : (updateV l cs).2 ≠ 0) : (updateV l cs).1 = [] := by
  unfold updateV at *
  split
  · rename_i hr
    rw [if_pos hr] at h
    cases hu : updV l cs with
    | error n => rfl
    | ok m =>
      rw [hu] at h
      simp only [endV] at *
      split
      · rename_i h2
        rw [if_pos h2] at h
        split
        · rename_i h3
          rw [if_pos h3] at h
          simp at h
        · rfl
      · rfl
  · rfl
theorem endV_right {l : VL} (h : rightV l = true) : endV l = (l, 0) := by
  have h2 := h
  unfold rightV at h2
  simp only [Bool.and_eq_true] at h2
  unfold endV
  rw [if_pos h2.1.1.1, if_pos h]
theorem updateV_of {l cs a : VL} (h : rightV l = true) (hu : updV l cs = .ok a) (ha : rightV a = true) : updateV l cs = (a, 0) := by
  unfold updateV
  rw [if_pos h, hu]
  exact endV_right ha

/-- The powers of a list whose sum may be. -/
theorem sumV_all : ∀ {l : VL} {n : Int}, 0 ≤ n → n ≤ 1125899906842624 → (sumV n l).2 = true → (∀ v ∈ l, 1 ≤ v.2) ∧ (sumV n l).1 = n + (l.map (·.2)).sum ∧ (sumV n l).1 ≤ 1125899906842624 ∧ n ≤ (sumV n l).1 := by
  intro l
  induction l with
  | nil => intro n h0 h1 _; exact ⟨by simp, by simp [sumV], h1, by simp [sumV]⟩
  | cons v l ih =>
    intro n h0 h1 h
    rw [sumV] at h ⊢
    split at h
    · simp at h
    · rename_i hv
      rw [if_neg hv]
      obtain ⟨a, b, c, d⟩ := ih (n := n + v.2) (by omega) (by omega) h
      refine ⟨fun u hu => ?_, ?_, c, by omega⟩
      · rcases List.mem_cons.1 hu with rfl | hu
        · omega
        · exact a u hu
      · rw [b, List.map_cons, List.sum_cons]; omega
theorem right_sum {l : VL} (h : rightV l = true) : (sumV 0 l).2 = true := by
  unfold rightV at h
  simp only [Bool.and_eq_true] at h
  exact h.1.1.1
theorem right_pos {l : VL} (h : rightV l = true) : ∀ v ∈ l, 1 ≤ v.2 := (sumV_all (Int.le_refl 0) (by decide) (right_sum h)).1

theorem power_low {l : VL} {k : Int} (h : ∀ v ∈ l, k < v.1) : powerV l k = 0 := by
  refine powerV_no ?_
  unfold hasV
  rw [List.any_eq_false]
  intro v hv
  have := h v hv
  simp; omega
/-- Lists by rising keys, all powers at least 1, that give each key the same power, are one. -/
theorem up_ext : ∀ {l m : VL}, Up l → Up m → (∀ v ∈ l, 1 ≤ v.2) → (∀ v ∈ m, 1 ≤ v.2) → (∀ k, powerV l k = powerV m k) → l = m := by
  intro l
  induction l with
  | nil =>
    intro m _ _ _ hm h
    cases m with
    | nil => rfl
    | cons v m =>
      have h1 := h v.1
      have h2 := hm v (by simp)
      simp [powerV] at h1
      omega
  | cons u l ih =>
    intro m hl hm pl pm h
    have hl2 := List.pairwise_cons.1 hl
    have pu := pl u (by simp)
    cases m with
    | nil =>
      have h1 := h u.1
      simp [powerV] at h1
      omega
    | cons v m =>
      have hm2 := List.pairwise_cons.1 hm
      have pv := pm v (by simp)
      have e1 : u.1 = v.1 := by
        rcases Int.lt_trichotomy u.1 v.1 with hlt | he | hgt
        · have h1 := h u.1
          rw [powerV, if_pos rfl, power_low (l := v :: m) (fun x hx => by
            rcases List.mem_cons.1 hx with rfl | hx
            · exact hlt
            · exact Int.lt_trans hlt (hm2.1 x hx))] at h1
          omega
        · exact he
        · have h1 := h v.1
          rw [powerV.eq_def (v :: m)] at h1
          simp only [if_true] at h1
          rw [power_low (l := u :: l) (fun x hx => by
            rcases List.mem_cons.1 hx with rfl | hx
            · exact hgt
            · exact Int.lt_trans hgt (hl2.1 x hx))] at h1
          omega
      have e2 : u.2 = v.2 := by
        have h1 := h u.1
        rw [powerV, if_pos rfl, powerV, if_pos e1.symm] at h1
        exact h1
      have e3 : l = m := by
        refine ih hl2.2 hm2.2 (fun x hx => pl x (by simp [hx])) (fun x hx => pm x (by simp [hx])) fun k => ?_
        by_cases hk : u.1 = k
        · subst hk
          rw [power_low hl2.1, power_low (fun x hx => by have := hm2.1 x hx; omega)]
        · have h1 := h k
          rw [powerV, if_neg hk, powerV, if_neg (by omega)] at h1
          exact h1
      rw [e3, show u = v from Prod.ext e1 e2]
theorem right_upm {l : VL} (h : rightV l = true) : Up l := by
  unfold rightV at h
  simp only [Bool.and_eq_true, decide_eq_true_eq] at h
  exact up_of_asc h.1.1.2
theorem right_ext {l m : VL} (hl : rightV l = true) (hm : rightV m = true) (h : ∀ k, powerV l k = powerV m k) : l = m :=
  up_ext (right_upm hl) (right_upm hm) (right_pos hl) (right_pos hm) h
theorem power_has {l : VL} {k : Int} (hp : ∀ v ∈ l, 1 ≤ v.2) (h : powerV l k = 0) : hasV l k = false := by
  induction l with
  | nil => rfl
  | cons v l ih =>
    have hv := hp v (by simp)
    rw [powerV] at h
    split at h
    · omega
    · rename_i hk
      rw [hasV_cons, ih (fun x hx => hp x (by simp [hx])) h]
      simpa using hk
theorem power_at {l : VL} (hu : Up l) {v : Int × Int} (hv : v ∈ l) : powerV l v.1 = v.2 := by
  induction l with
  | nil => simp at hv
  | cons u l ih =>
    have h2 := List.pairwise_cons.1 hu
    rcases List.mem_cons.1 hv with rfl | hv
    · rw [powerV, if_pos rfl]
    · have := h2.1 v hv
      rw [powerV, if_neg (by omega), ih h2.2 hv]

/-- Right stays right, and each key's power (the law ValsetRight). -/
theorem law_right {l cs a : VL} (h : updateV l cs = (a, 0)) (key : Int) : rightV a = true ∧ powerV a key = wantV (powerV l key) cs key :=
  ⟨(updateV_ok h).2.2, powerV_upd (updateV_ok h).2.1 key⟩
/-- Two changes in either order (the law ValsetOrder). -/
theorem law_order {l x y : VL} {a b : Int × Int} (hab : a.1 ≠ b.1) (hx : updateV l [a, b] = (x, 0)) (hy : updateV l [b, a] = (y, 0)) : x = y := by
  refine right_ext (updateV_ok hx).2.2 (updateV_ok hy).2.2 fun k => ?_
  rw [powerV_upd (updateV_ok hx).2.1, powerV_upd (updateV_ok hy).2.1]
  simp only [wantV]
  by_cases h1 : a.1 = k
  · rw [if_pos h1, if_neg (show ¬ b.1 = k by omega), if_neg (show ¬ b.1 = k by omega), if_pos h1]
  · rw [if_neg h1, if_neg h1]
theorem law_one {l x p : VL} {a b : Int × Int} (hx : updateV l [a, b] = (x, 0)) (hp : updateV l [a] = (p, 0)) : updateV p [b] = (x, 0) := by
  obtain ⟨h1, h2, h3⟩ := updateV_ok hx
  obtain ⟨h4, h5, h6⟩ := updateV_ok hp
  refine updateV_of h6 ?_ h3
  simp only [updV] at h2 h5 ⊢
  cases hs : stepV l a.1 a.2 with
  | error n => rw [hs] at h5; cases h5
  | ok m =>
    rw [hs] at h2 h5
    cases h5
    exact h2
/-- Taken away again (the law ValsetBack). -/
theorem law_back {l a : VL} {k p : Int} (h0 : powerV l k = 0) (hp : p ≠ 0) (ha : updateV l [(k, p)] = (a, 0)) : updateV a [(k, 0)] = (l, 0) ∧ updateV l [(k, p), (k, 0)] = (l, 0) := by
  obtain ⟨h1, h2, h3⟩ := updateV_ok ha
  have hno := power_has (right_pos h1) h0
  simp only [updV] at h2
  cases hs : stepV l k p with
  | error n => rw [hs] at h2; cases h2
  | ok m =>
    rw [hs] at h2
    cases h2
    have hstep : ∃ l2, stepV a k 0 = .ok l2 := by
      unfold stepV
      have hb : badP 0 = false := by decide
      rw [hb]
      have hh : hasV a k = true := by
        rcases Bool.eq_false_or_eq_true (hasV a k) with h | h
        · exact h
        · have e1 := powerV_no h
          rw [powerV_step hs, if_pos rfl] at e1
          exact absurd e1 hp
      rw [hh]
      exact ⟨_, rfl⟩
    obtain ⟨l2, hl2⟩ := hstep
    have hua : Up a := right_upm h3
    have hu2 : Up l2 := up_step hua hl2
    have hpw : ∀ key, powerV l2 key = powerV l key := by
      intro key
      rw [powerV_step hl2, powerV_step hs]
      by_cases hk : k = key
      · rw [if_pos hk, ← hk, h0]
      · rw [if_neg hk, if_neg hk]
    have hpos2 : ∀ v ∈ l2, 1 ≤ v.2 := by
      intro v hv
      have hb := right_pos h3
      have hmem : v ∈ a := by
        unfold stepV at hl2
        split at hl2
        · cases hl2
        · rw [if_pos rfl] at hl2
          split at hl2
          · cases hl2
            rcases List.mem_append.1 hv with h | h
            · exact (List.mem_filter.1 h).1
            · exact (List.mem_filter.1 h).1
          · cases hl2
      exact hb v hmem
    have he : l2 = l := up_ext hu2 (right_upm h1) hpos2 (right_pos h1) hpw
    subst he
    refine ⟨updateV_of h3 ?_ h1, updateV_of h1 ?_ h1⟩
    · simp only [updV]; rw [hl2]
    · simp only [updV]; rw [hs]; simp only []; rw [hl2]
/-- All is the sum (the law ValsetTotal). -/
theorem sum_step {l l' : VL} {k p : Int} (hu : Up l) (h : stepV l k p = .ok l') : (l'.map (·.2)).sum = (l.map (·.2)).sum - powerV l k + p := by
  have hsplit : ∀ l : VL, Up l → (l.map (·.2)).sum = ((lo l k).map (·.2)).sum + powerV l k + ((hi l k).map (·.2)).sum := by
    intro l
    induction l with
    | nil => intro _; rfl
    | cons v l ih =>
      intro hu
      have h2 := List.pairwise_cons.1 hu
      have := ih h2.2
      unfold lo hi at *
      rw [List.filter_cons, List.filter_cons, powerV]
      rcases Int.lt_trichotomy v.1 k with hlt | he | hgt
      · simp only [hlt, decide_true, if_true, if_neg (show ¬ v.1 = k by omega), show decide (k < v.1) = false from by simp; omega]
        simp only [List.map_cons, List.sum_cons]
        simp
        omega
      · have e0 := power_low (l := l) (k := k) (fun x hx => by have := h2.1 x hx; omega)
        rw [e0] at this
        simp only [show decide (v.1 < k) = false from by simp; omega, show decide (k < v.1) = false from by simp; omega, if_pos he]
        simp only [List.map_cons, List.sum_cons]
        simp
        omega
      · simp only [show decide (v.1 < k) = false from by simp; omega, hgt, decide_true, if_true, if_neg (show ¬ v.1 = k by omega)]
        simp only [List.map_cons, List.sum_cons]
        simp
        omega
  have hs := hsplit l hu
  unfold stepV at h
  split at h
  · cases h
  · split at h
    · rename_i hp
      split at h
      · cases h
        rw [List.map_append, List.sum_append]
        omega
      · cases h
    · cases h
      rw [List.map_append, List.sum_append, List.map_cons, List.sum_cons]
      omega
theorem law_total {l m : VL} {k p : Int} (h : updateV l [(k, p)] = (m, 0)) : totalV m = ((totalV l).1 - powerV l k + p, 0) := by
  obtain ⟨h1, h2, h3⟩ := updateV_ok h
  simp only [updV] at h2
  cases hs : stepV l k p with
  | error n => rw [hs] at h2; cases h2
  | ok m' =>
    rw [hs] at h2
    cases h2
    have e1 := sumV_all (Int.le_refl 0) (by decide) (right_sum h1)
    have e2 := sumV_all (Int.le_refl 0) (by decide) (right_sum h3)
    have e3 := sum_step (right_upm h1) hs
    unfold totalV
    rw [if_pos h1, if_pos h3]
    simp only [Prod.mk.injEq, and_true]
    omega
end Go.Proofs.Ytlocapkofmpebaa
