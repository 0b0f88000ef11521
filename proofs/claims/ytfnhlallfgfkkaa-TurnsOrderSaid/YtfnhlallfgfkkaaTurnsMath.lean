/- What this text proves: plain facts on the turns of proposers: priorities, who is chosen, whose turn it is. No program in sight, no condition. -/
import Derived.Test.YtfnhlallfgfkkaaValMath
namespace Go.Proofs.Ytfnhlallfgfkkaa
set_option linter.unusedVariables false
set_option linter.unusedSimpArgs false

/-- Priorities behind the adding of power. -/
def addW (p : List Int) (l : List (Int × Int)) : List Int := List.zipWith (fun a v => a + v.2) p l
/-- The first greatest of the first k. -/
def argK (q : List Int) : Nat → Nat
  | 0 => 0
  | k + 1 => if q.getD (argK q k) 0 < q.getD k 0 then k else argK q k
/-- Priorities ahead of turn t. -/
def prioAt (l : List (Int × Int)) : Nat → List Int
  | 0 => List.replicate l.length 0
  | t + 1 => let q := addW (prioAt l t) l; q.set (argK q l.length) (q.getD (argK q l.length) 0 - (sumV 0 l).1)
/-- Priorities in turn t, power added. -/
def qAt (l : List (Int × Int)) (t : Nat) : List Int := addW (prioAt l t) l
def whoAt (l : List (Int × Int)) (t : Nat) : Nat := argK (qAt l t) l.length
def keyAt (l : List (Int × Int)) (t : Nat) : Int := (l.getD (whoAt l t) (0, 0)).1

theorem addW_len (p : List Int) (l : List (Int × Int)) (h : p.length = l.length) : (addW p l).length = l.length := by simp [addW, h]
theorem prioAt_len (l : List (Int × Int)) : ∀ t, (prioAt l t).length = l.length
  | 0 => by simp [prioAt]
  | t + 1 => by simp [prioAt, addW_len _ _ (prioAt_len l t)]
theorem qAt_len (l : List (Int × Int)) (t : Nat) : (qAt l t).length = l.length := addW_len _ _ (prioAt_len l t)
theorem argK_lt (q : List Int) (n : Nat) (hn : 0 < n) : ∀ k, k ≤ n → argK q k < n
  | 0, _ => hn
  | k + 1, h => by
    rw [argK]
    split
    · omega
    · exact argK_lt q n hn k (by omega)
theorem argK_le (q : List Int) : ∀ k, argK q k ≤ k
  | 0 => Nat.le_refl _
  | k + 1 => by
    rw [argK]
    split
    · omega
    · have := argK_le q k; omega
theorem whoAt_lt (l : List (Int × Int)) (t : Nat) (h : 0 < l.length) : whoAt l t < l.length := argK_lt _ _ h _ (Nat.le_refl _)
theorem prioAt_succ (l : List (Int × Int)) (t : Nat) : prioAt l (t + 1) = (qAt l t).set (whoAt l t) ((qAt l t).getD (whoAt l t) 0 - (sumV 0 l).1) := rfl
theorem addW_get {p : List Int} {l : List (Int × Int)} {k : Nat} {a : Int} {v : Int × Int} (ha : p[k]? = some a) (hv : l[k]? = some v) : (addW p l)[k]? = some (a + v.2) := by
  simp [addW, List.getElem?_zipWith, ha, hv]

/-- What a right sum says. -/
theorem sumV_right : ∀ (l : List (Int × Int)) (n : Int), 0 ≤ n → n ≤ 1125899906842624 → (sumV n l).2 = true → n + l.length ≤ (sumV n l).1 ∧ (sumV n l).1 ≤ 1125899906842624 ∧ ∀ v ∈ l, 1 ≤ v.2 ∧ v.2 ≤ 1125899906842624
  | [], n, h0, h1, h => by simp [sumV]; omega
  | v :: l, n, h0, h1, h => by
    rw [sumV] at h ⊢
    split at h
    · cases h
    · rename_i hv
      rw [if_neg hv]
      obtain ⟨a, b, c⟩ := sumV_right l (n + v.2) (by omega) (by omega) h
      refine ⟨by simp; omega, b, fun x hx => ?_⟩
      rcases List.mem_cons.1 hx with rfl | hx
      · omega
      · exact c x hx
theorem rightV_sum {l : List (Int × Int)} (h : rightV l = true) : (sumV 0 l).2 = true ∧ ascV l = true ∧ 1 ≤ l.length ∧ l.length ≤ 64 := by
  simp [rightV] at h
  exact ⟨h.1.1.1, h.1.1.2, h.1.2, h.2⟩
/-- Priorities stay small. -/
theorem prioAt_bd {l : List (Int × Int)} (h : rightV l = true) : ∀ (t : Nat), ∀ x ∈ prioAt l t, -(t * 1125899906842624) ≤ x ∧ x ≤ t * 1125899906842624
  | 0 => by intro x hx; simp [prioAt] at hx; omega
  | t + 1 => by
    intro x hx
    obtain ⟨h2, _, _, _⟩ := rightV_sum h
    obtain ⟨s1, s2, s3⟩ := sumV_right l 0 (by omega) (by omega) h2
    have hq : ∀ y ∈ qAt l t, -(t * 1125899906842624) + 1 ≤ y ∧ y ≤ t * 1125899906842624 + 1125899906842624 := by
      intro y hy
      obtain ⟨i, hi, rfl⟩ := List.getElem_of_mem hy
      have hil : i < l.length := by rw [qAt_len] at hi; exact hi
      have hip : i < (prioAt l t).length := by rw [prioAt_len]; exact hil
      have e := addW_get (List.getElem?_eq_getElem hip) (List.getElem?_eq_getElem hil)
      have e2 : (qAt l t)[i] = (prioAt l t)[i] + l[i].2 := by
        rw [List.getElem_eq_iff]; exact e
      have b := prioAt_bd h t _ (List.getElem_mem hip)
      have c := s3 _ (List.getElem_mem hil)
      omega
    rw [prioAt_succ] at hx
    have hl0 : 0 < l.length := by omega
    have hw : whoAt l t < (qAt l t).length := by rw [qAt_len]; exact whoAt_lt l t hl0
    rcases List.mem_or_eq_of_mem_set hx with hx | rfl
    · have := hq x hx; omega
    · have := hq _ (List.getElem_mem hw)
      rw [List.getD_eq_getElem?_getD, List.getElem?_eq_getElem hw, Option.getD_some]
      omega

/-- The first j of q, the rest of p. -/
def mid (q p : List Int) (j : Nat) : List Int := q.take j ++ p.drop j
theorem mid_zero (q p : List Int) : mid q p 0 = p := by simp [mid]
theorem mid_full {q p : List Int} {n : Nat} (hq : q.length = n) (hp : p.length = n) : mid q p n = q := by
  unfold mid; rw [List.take_of_length_le (by omega), List.drop_eq_nil_of_le (by omega), List.append_nil]
theorem mid_len {q p : List Int} {n j : Nat} (hq : q.length = n) (hp : p.length = n) (hj : j ≤ n) : (mid q p j).length = n := by
  simp [mid]; omega
theorem mid_at {q p : List Int} {n j : Nat} (hq : q.length = n) (hp : p.length = n) (hj : j < n) : (mid q p j)[j]? = p[j]? := by
  unfold mid
  rw [List.getElem?_append_right (by simp; omega)]
  simp [Nat.min_eq_left (show j ≤ q.length by omega)]
theorem mid_lt {q p : List Int} {n j i : Nat} (hq : q.length = n) (hj : j ≤ n) (hi : i < j) : (mid q p j)[i]? = q[i]? := by
  unfold mid
  rw [List.getElem?_append_left (by simp; omega), List.getElem?_take, if_pos hi]
theorem mid_set {q p : List Int} {n j : Nat} {x : Int} (hq : q.length = n) (hp : p.length = n) (hj : j < n) (hx : q[j]? = some x) : (mid q p j).set j x = mid q p (j + 1) := by
  unfold mid
  have hd := drop_at (List.getElem?_eq_getElem (show j < p.length by omega))
  rw [take_at hx, List.set_append_right _ _ (by simp; omega), hd, show j - (q.take j).length = 0 from by simp; omega, List.set_cons_zero]
  simp
theorem getD_of {α : Type} {l : List α} {i : Nat} {d x : α} (h : l[i]? = some x) : l.getD i d = x := by simp [List.getD_eq_getElem?_getD, h]
theorem some_of {α : Type} {l : List α} {i : Nat} (h : i < l.length) : ∃ x, l[i]? = some x := ⟨_, List.getElem?_eq_getElem h⟩
end Go.Proofs.Ytfnhlallfgfkkaa
