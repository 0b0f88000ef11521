/- What this text proves: plain facts: in as many turns as there is power each validator comes just as often as it has power, and then all begins anew. No program in sight; the condition is that the set is right. -/
import Derived.Test.YtfnhlallfgfkkaaTurnsMath
namespace Go.Proofs.Ytfnhlallfgfkkaa
set_option linter.unusedVariables false
set_option linter.unusedSimpArgs false

def tot (p : List Int) : Int := p.foldr (· + ·) 0
theorem tot_cons (a : Int) (p : List Int) : tot (a :: p) = a + tot p := rfl
theorem tot_replicate (n : Nat) : tot (List.replicate n 0) = 0 := by
  induction n with
  | zero => rfl
  | succ n ih => rw [List.replicate_succ, tot_cons, ih]; rfl
theorem tot_addW : ∀ (p : List Int) (l : List (Int × Int)), p.length = l.length → tot (addW p l) = tot p + tot (l.map (·.2))
  | [], [], _ => rfl
  | a :: p, v :: l, h => by
    have := tot_addW p l (by simpa using h)
    simp only [addW, List.zipWith_cons_cons, tot_cons, List.map_cons] at this ⊢
    omega
theorem tot_set : ∀ (p : List Int) (i : Nat) (a x : Int), p[i]? = some a → tot (p.set i x) = tot p - a + x
  | b :: p, 0, a, x, h => by
    simp at h
    subst h
    simp [tot_cons]
    omega
  | b :: p, i + 1, a, x, h => by
    have := tot_set p i a x (by simpa using h)
    simp only [List.set_cons_succ, tot_cons, this]
    omega
theorem tot_le : ∀ (p : List Int) (m : Int), (∀ x ∈ p, x ≤ m) → m ≤ 0 → tot p ≤ 0
  | [], _, _, _ => by simp [tot]
  | a :: p, m, h, hm => by
    have := tot_le p m (fun x hx => h x (by simp [hx])) hm
    have := h a (by simp)
    rw [tot_cons]
    omega
theorem tot_nonneg_zero : ∀ (p : List Int), (∀ x ∈ p, 0 ≤ x) → tot p = 0 → ∀ x ∈ p, x = 0
  | [], _, _, x, hx => by cases hx
  | a :: p, h, ht, x, hx => by
    have h0 : 0 ≤ tot p := by
      clear ht hx
      have : ∀ q : List Int, (∀ x ∈ q, 0 ≤ x) → 0 ≤ tot q := by
        intro q
        induction q with
        | nil => intro _; simp [tot]
        | cons b q ih => intro hq; have := ih (fun x hx => hq x (by simp [hx])); have := hq b (by simp); rw [tot_cons]; omega
      exact this p (fun x hx => h x (by simp [hx]))
    rw [tot_cons] at ht
    have ha := h a (by simp)
    rcases List.mem_cons.1 hx with rfl | hx
    · omega
    · exact tot_nonneg_zero p (fun x hx => h x (by simp [hx])) (by omega) x hx
theorem sumV_tot : ∀ (l : List (Int × Int)) (n : Int), (sumV n l).2 = true → (sumV n l).1 = n + tot (l.map (·.2))
  | [], n, _ => by simp [sumV, tot]
  | v :: l, n, h => by
    rw [sumV] at h ⊢
    split at h
    · cases h
    · rename_i hv
      rw [if_neg hv, sumV_tot l (n + v.2) h]
      simp only [List.map_cons, tot_cons]
      omega

theorem argK_max (q : List Int) : ∀ k, ∀ i, i < k → q.getD i 0 ≤ q.getD (argK q k) 0
  | 0, i, h => by omega
  | k + 1, i, h => by
    have ih := argK_max q k
    rw [argK]
    by_cases hi : i < k
    · have := ih i hi
      split
      · omega
      · exact this
    · have : i = k := by omega
      subst this
      split
      · omega
      · omega

/-- All power. -/
def TP (l : List (Int × Int)) : Int := (sumV 0 l).1
theorem TP_tot {l : List (Int × Int)} (h : rightV l = true) : TP l = tot (l.map (·.2)) := by
  rw [TP, sumV_tot l 0 (rightV_sum h).1, Int.zero_add]
theorem TP_pos {l : List (Int × Int)} (h : rightV l = true) : 1 ≤ TP l := by
  obtain ⟨h2, _, h1, _⟩ := rightV_sum h
  have := (sumV_right l 0 (by omega) (by omega) h2).1
  unfold TP
  omega
theorem prio_tot {l : List (Int × Int)} (h : rightV l = true) : ∀ t, tot (prioAt l t) = 0
  | 0 => by rw [prioAt, tot_replicate]
  | t + 1 => by
    have ih := prio_tot h t
    have hw : whoAt l t < (qAt l t).length := by rw [qAt_len]; exact whoAt_lt l t (by have := (rightV_sum h).2.2.1; omega)
    obtain ⟨a, ha⟩ := some_of hw
    rw [prioAt_succ, tot_set _ _ a _ ha, getD_of ha]
    have := tot_addW (prioAt l t) l (prioAt_len l t)
    rw [show addW (prioAt l t) l = qAt l t from rfl, ih] at this
    have e := TP_tot h
    unfold TP at e
    omega
theorem q_tot {l : List (Int × Int)} (h : rightV l = true) (t : Nat) : tot (qAt l t) = TP l := by
  have := tot_addW (prioAt l t) l (prioAt_len l t)
  rw [show addW (prioAt l t) l = qAt l t from rfl, prio_tot h t] at this
  rw [this, TP_tot h, Int.zero_add]
theorem q_best {l : List (Int × Int)} (h : rightV l = true) (t : Nat) : 1 ≤ (qAt l t).getD (whoAt l t) 0 := by
  by_cases hc : 1 ≤ (qAt l t).getD (whoAt l t) 0
  · exact hc
  · exfalso
    have hle : ∀ x ∈ qAt l t, x ≤ (qAt l t).getD (whoAt l t) 0 := by
      intro x hx
      obtain ⟨i, hi, rfl⟩ := List.getElem_of_mem hx
      have := argK_max (qAt l t) l.length i (by rw [qAt_len] at hi; exact hi)
      rwa [getD_of (List.getElem?_eq_getElem hi)] at this
    have h1 := tot_le _ _ hle (by omega)
    rw [q_tot h t] at h1
    have := TP_pos h
    omega
theorem prio_low {l : List (Int × Int)} (h : rightV l = true) : ∀ t, ∀ x ∈ prioAt l t, -TP l < x
  | 0 => by
    intro x hx
    simp [prioAt] at hx
    have := TP_pos h
    omega
  | t + 1 => by
    intro x hx
    obtain ⟨h2, _, _, _⟩ := rightV_sum h
    obtain ⟨_, _, s3⟩ := sumV_right l 0 (by omega) (by omega) h2
    rw [prioAt_succ] at hx
    rcases List.mem_or_eq_of_mem_set hx with hx | rfl
    · obtain ⟨i, hi, rfl⟩ := List.getElem_of_mem hx
      have hil : i < l.length := by rw [qAt_len] at hi; exact hi
      have hip : i < (prioAt l t).length := by rw [prioAt_len]; exact hil
      have e := addW_get (List.getElem?_eq_getElem hip) (List.getElem?_eq_getElem hil)
      have e2 : (qAt l t)[i] = (prioAt l t)[i] + l[i].2 := by
        rw [List.getElem_eq_iff]; exact e
      have b := prio_low h t _ (List.getElem_mem hip)
      have c := s3 _ (List.getElem_mem hil)
      omega
    · have := q_best h t
      unfold TP
      omega

/-- How often the i-th has come. -/
def cnt (l : List (Int × Int)) (i : Nat) : Nat → Int
  | 0 => 0
  | t + 1 => cnt l i t + if whoAt l t = i then 1 else 0
theorem prio_cnt (l : List (Int × Int)) {i : Nat} {v : Int × Int} (hv : l[i]? = some v) : ∀ t : Nat, (prioAt l t)[i]? = some (t * v.2 - TP l * cnt l i t)
  | 0 => by
    have hi := (List.getElem?_eq_some_iff.1 hv).1
    simp [prioAt, hi, cnt]
  | t + 1 => by
    have hi := (List.getElem?_eq_some_iff.1 hv).1
    have hq : (qAt l t)[i]? = some (t * v.2 - TP l * cnt l i t + v.2) := addW_get (prio_cnt l hv t) hv
    rw [prioAt_succ, List.getElem?_set]
    have e1 : ((t + 1 : Nat) : Int) * v.2 = t * v.2 + v.2 := by rw [Int.natCast_add, Int.add_mul]; omega
    by_cases hw : whoAt l t = i
    · rw [if_pos hw, if_pos (by rw [hw, qAt_len]; exact hi), hw, getD_of hq, cnt, if_pos hw, e1, Int.mul_add]
      congr 1
      unfold TP
      omega
    · rw [if_neg hw, hq, cnt, if_neg hw, e1, Int.add_zero]
      congr 1
      omega

/-- Behind as many turns as there is power all priorities are none. -/
theorem prio_round {l : List (Int × Int)} (h : rightV l = true) {T : Nat} (hT : TP l = T) : prioAt l T = prioAt l 0 ∧ ∀ i v, l[i]? = some v → cnt l i T = v.2 := by
  have hpos := TP_pos h
  have hge : ∀ i v, l[i]? = some v → 0 ≤ (T : Int) * (v.2 - cnt l i T) := by
    intro i v hv
    have h1 := prio_cnt l hv T
    have h2 := prio_low h T _ (List.mem_of_getElem? h1)
    rw [hT] at h2 hpos
    have h3 : (T : Int) * v.2 - T * cnt l i T = T * (v.2 - cnt l i T) := by rw [Int.mul_sub]
    rw [h3] at h2
    have : 0 ≤ v.2 - cnt l i T := by
      by_cases hc : 0 ≤ v.2 - cnt l i T
      · exact hc
      · exfalso
        have : (T : Int) * (v.2 - cnt l i T) ≤ T * (-1) := Int.mul_le_mul_of_nonneg_left (by omega) (by omega)
        omega
    exact Int.mul_nonneg (by omega) this
  have hnn : ∀ x ∈ prioAt l T, 0 ≤ x := by
    intro x hx
    obtain ⟨i, hi, rfl⟩ := List.getElem_of_mem hx
    have hil : i < l.length := by rw [prioAt_len] at hi; exact hi
    have h1 := prio_cnt l (List.getElem?_eq_getElem hil) T
    rw [List.getElem?_eq_getElem hi] at h1
    injection h1 with h1
    rw [h1, hT, ← Int.mul_sub]
    exact hge i _ (List.getElem?_eq_getElem hil)
  have hz := tot_nonneg_zero _ hnn (prio_tot h T)
  constructor
  · rw [prioAt]
    exact List.eq_replicate_iff.2 ⟨prioAt_len l T, hz⟩
  · intro i v hv
    have h1 := prio_cnt l hv T
    have h2 := hz _ (List.mem_of_getElem? h1)
    rw [hT, ← Int.mul_sub] at h2
    rcases Int.mul_eq_zero.1 h2 with h3 | h3
    · omega
    · omega
theorem prio_again {l : List (Int × Int)} (h : rightV l = true) {T : Nat} (hT : TP l = T) : ∀ t, prioAt l (T + t) = prioAt l t
  | 0 => (prio_round h hT).1
  | t + 1 => by
    rw [← Nat.add_assoc, prioAt, prioAt, prio_again h hT t]
theorem key_again {l : List (Int × Int)} (h : rightV l = true) {T : Nat} (hT : TP l = T) (t : Nat) : keyAt l (T + t) = keyAt l t := by
  rw [keyAt, keyAt, whoAt, whoAt, qAt, qAt, prio_again h hT t]

theorem asc_lt : ∀ (l : List (Int × Int)), ascV l = true → ∀ (i j : Nat) (a b : Int × Int), i < j → l[i]? = some a → l[j]? = some b → a.1 < b.1
  | [], _, i, j, a, b, _, h, _ => by simp at h
  | [v], _, i, j, a, b, hij, _, h => by
    have : j = 0 := by have := (List.getElem?_eq_some_iff.1 h).1; simp at this; exact this
    omega
  | v :: u :: l, hs, i, j, a, b, hij, ha, hb => by
    rw [ascV, Bool.and_eq_true, decide_eq_true_eq] at hs
    obtain ⟨hs1, hs2⟩ := hs
    obtain ⟨j, rfl⟩ : ∃ j', j = j' + 1 := ⟨j - 1, by omega⟩
    have hb' : (u :: l)[j]? = some b := by simpa using hb
    cases i with
    | zero =>
      simp at ha
      subst ha
      cases j with
      | zero => simp at hb'; subst hb'; exact hs1
      | succ j =>
        have := asc_lt (u :: l) hs2 0 (j + 1) u b (by omega) (by simp) hb'
        omega
    | succ i => exact asc_lt (u :: l) hs2 i j a b (by omega) (by simpa using ha) hb'
theorem asc_inj {l : List (Int × Int)} (h : ascV l = true) {i j : Nat} {a b : Int × Int} (ha : l[i]? = some a) (hb : l[j]? = some b) (he : a.1 = b.1) : i = j := by
  rcases Nat.lt_trichotomy i j with hlt | hlt | hlt
  · have := asc_lt l h i j a b hlt ha hb; omega
  · exact hlt
  · have := asc_lt l h j i b a hlt hb ha; omega

/-- How often a key has come. -/
def cntK (l : List (Int × Int)) (key : Int) : Nat → Int
  | 0 => 0
  | t + 1 => cntK l key t + if keyAt l t = key then 1 else 0
theorem cntK_cnt {l : List (Int × Int)} (h : rightV l = true) {i : Nat} {v : Int × Int} (hv : l[i]? = some v) : ∀ t, cntK l v.1 t = cnt l i t
  | 0 => rfl
  | t + 1 => by
    rw [cntK, cnt, cntK_cnt h hv t]
    congr 1
    have hw := whoAt_lt l t (by have := (rightV_sum h).2.2.1; omega)
    obtain ⟨u, hu⟩ := some_of hw
    by_cases he : whoAt l t = i
    · rw [if_pos he, if_pos]
      rw [keyAt, he, getD_of hv]
    · rw [if_neg he, if_neg]
      rw [keyAt, getD_of hu]
      exact fun hk => he (asc_inj (rightV_sum h).2.1 hu hv hk)
/-- As often as power. -/
theorem fair {l : List (Int × Int)} (h : rightV l = true) {T : Nat} (hT : TP l = T) {i : Nat} {v : Int × Int} (hv : l[i]? = some v) : cntK l v.1 T = v.2 := by
  rw [cntK_cnt h hv, (prio_round h hT).2 i v hv]
theorem cntK_bd (l : List (Int × Int)) (key : Int) : ∀ t : Nat, 0 ≤ cntK l key t ∧ cntK l key t ≤ t
  | 0 => by simp [cntK]
  | t + 1 => by
    have := cntK_bd l key t
    rw [cntK]
    split <;> omega
end Go.Proofs.Ytfnhlallfgfkkaa
