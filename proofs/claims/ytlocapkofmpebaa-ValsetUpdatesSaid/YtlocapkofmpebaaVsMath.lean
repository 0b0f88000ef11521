/- What this text proves: plain facts on lists of validators by rising keys: what one change makes of them, and all changes. No condition but that the keys rise. -/
import Derived.Test.YtlocapkofmpebaaVsSearch
namespace Go.Proofs.Ytlocapkofmpebaa
open Go.RowKit
set_option linter.unusedVariables false
set_option linter.unusedSimpArgs false

abbrev VL := List (Int × Int)
/-- By rising keys. -/
abbrev Up (l : VL) : Prop := l.Pairwise (fun a b => a.1 < b.1)
def lo (l : VL) (k : Int) : VL := l.filter fun v => decide (v.1 < k)
def hi (l : VL) (k : Int) : VL := l.filter fun v => decide (k < v.1)
def hasV (l : VL) (k : Int) : Bool := l.any fun v => v.1 == k
def badP (p : Int) : Bool := decide (p < 0) || decide (1125899906842624 < p)
/-- One change. -/
def stepV (l : VL) (k p : Int) : Except Int VL :=
  if badP p then .error 72 else if p = 0 then (if hasV l k then .ok (lo l k ++ hi l k) else .error 73) else .ok (lo l k ++ (k, p) :: hi l k)
def updV : VL → VL → Except Int VL
  | l, [] => .ok l
  | l, c :: cs => match stepV l c.1 c.2 with
    | .error e => .error e
    | .ok l' => updV l' cs
def endV (l : VL) : VL × Int := if (sumV 0 l).2 then (if rightV l then (l, 0) else ([], 71)) else ([], 72)
def updateV (l cs : VL) : VL × Int := if rightV l then (match updV l cs with
    | .error e => ([], e)
    | .ok l' => endV l') else ([], 71)

theorem rising_of_up {l : VL} (h : Up l) : Rising l := by
  intro i j u v hij hu hv
  obtain ⟨hi, rfl⟩ := List.getElem?_eq_some_iff.1 hu
  obtain ⟨hj, rfl⟩ := List.getElem?_eq_some_iff.1 hv
  exact List.pairwise_iff_getElem.1 h i j hi hj hij
theorem up_of_asc : ∀ {l : VL}, ascV l = true → Up l := by
  intro l
  induction l with
  | nil => intro _; exact List.Pairwise.nil
  | cons a l ih =>
    intro h
    cases l with
    | nil => exact List.pairwise_singleton _ _
    | cons b l =>
      simp only [ascV, Bool.and_eq_true, decide_eq_true_eq] at h
      have h2 := ih h.2
      refine List.Pairwise.cons (fun c hc => ?_) h2
      rcases List.mem_cons.1 hc with rfl | hc
      · exact h.1
      · have := (List.pairwise_cons.1 h2).1 c hc
        exact Int.lt_trans h.1 this
theorem asc_of_up : ∀ {l : VL}, Up l → ascV l = true := by
  intro l
  induction l with
  | nil => intro _; rfl
  | cons a l ih =>
    intro h
    cases l with
    | nil => rfl
    | cons b l =>
      simp only [ascV, Bool.and_eq_true, decide_eq_true_eq]
      exact ⟨(List.pairwise_cons.1 h).1 b (by simp), ih (List.pairwise_cons.1 h).2⟩

section
variable {l : VL} {k : Int} {i : Nat}
theorem mem_take_lt (h : LowAt l k i) {v : Int × Int} (hv : v ∈ l.take i) : v.1 < k := by
  obtain ⟨j, hj⟩ := List.mem_iff_getElem?.1 hv
  rw [List.getElem?_take] at hj
  split at hj
  · exact h.lo j v (by assumption) hj
  · cases hj
theorem mem_drop_ge (h : LowAt l k i) {v : Int × Int} (hv : v ∈ l.drop i) : k ≤ v.1 := by
  obtain ⟨j, hj⟩ := List.mem_iff_getElem?.1 hv
  rw [List.getElem?_drop] at hj
  exact h.hi _ v (by omega) hj
theorem lo_take (h : LowAt l k i) : lo l k = l.take i := by
  unfold lo
  conv => lhs; rw [← List.take_append_drop i l]
  rw [List.filter_append, List.filter_eq_self.2 (fun v hv => by simpa using mem_take_lt h hv), List.filter_eq_nil_iff.2 (fun v hv => by have := mem_drop_ge h hv; simp; omega), List.append_nil]
theorem hi_found (hu : Up l) (h : LowAt l k i) (hf : foundAt l k i = true) : hi l k = l.drop (i + 1) ∧ hasV l k = true ∧ i < l.length := by
  unfold foundAt at hf
  cases hv : l[i]? with
  | none => rw [hv] at hf; cases hf
  | some v =>
    rw [hv] at hf
    have hk : v.1 = k := by simpa using hf
    obtain ⟨hil, hve⟩ := List.getElem?_eq_some_iff.1 hv
    refine ⟨?_, List.any_eq_true.2 ⟨v, List.mem_of_getElem? hv, by simpa using hk⟩, hil⟩
    have hd : l.drop i = v :: l.drop (i + 1) := drop_at hv
    have hu2 : Up (l.drop i) := hu.sublist (List.drop_sublist _ _)
    rw [hd] at hu2
    unfold hi
    conv => lhs; rw [← List.take_append_drop i l]
    rw [List.filter_append, List.filter_eq_nil_iff.2 (fun u hu' => by have := mem_take_lt h hu'; simp; omega), List.nil_append, hd, List.filter_cons_of_neg (by simp; omega)]
    refine List.filter_eq_self.2 fun u hu' => ?_
    have := (List.pairwise_cons.1 hu2).1 u hu'
    simp; omega
theorem hi_not (hu : Up l) (h : LowAt l k i) (hf : foundAt l k i = false) : hi l k = l.drop i ∧ hasV l k = false := by
  have hgt : ∀ u ∈ l.drop i, k < u.1 := by
    intro u hu'
    have h1 := mem_drop_ge h hu'
    unfold foundAt at hf
    cases hv : l[i]? with
    | none =>
      rw [List.getElem?_eq_none_iff] at hv
      rw [List.drop_eq_nil_of_le hv] at hu'
      cases hu'
    | some v =>
      rw [hv] at hf
      have hk : ¬ v.1 = k := by simpa using hf
      have hd : l.drop i = v :: l.drop (i + 1) := drop_at hv
      have hu2 : Up (l.drop i) := hu.sublist (List.drop_sublist _ _)
      rw [hd] at hu2 hu'
      have h2 := h.hi i v (Nat.le_refl _) hv
      rcases List.mem_cons.1 hu' with rfl | h3
      · omega
      · have := (List.pairwise_cons.1 hu2).1 u h3
        omega
  constructor
  · unfold hi
    conv => lhs; rw [← List.take_append_drop i l]
    rw [List.filter_append, List.filter_eq_nil_iff.2 (fun u hu' => by have := mem_take_lt h hu'; simp; omega), List.nil_append]
    exact List.filter_eq_self.2 fun u hu' => by simpa using hgt u hu'
  · unfold hasV
    rw [List.any_eq_false]
    intro u hu'
    rw [← List.take_append_drop i l] at hu'
    rcases List.mem_append.1 hu' with h1 | h1
    · have := mem_take_lt h h1
      simp; omega
    · have := hgt u h1
      simp; omega
end

theorem up_lo {l : VL} (h : Up l) (k : Int) : Up (lo l k) := h.filter _
theorem up_hi {l : VL} (h : Up l) (k : Int) : Up (hi l k) := h.filter _
theorem mem_lo {l : VL} {k : Int} {v : Int × Int} : v ∈ lo l k ↔ v ∈ l ∧ v.1 < k := by simp [lo]
theorem mem_hi {l : VL} {k : Int} {v : Int × Int} : v ∈ hi l k ↔ v ∈ l ∧ k < v.1 := by simp [hi]
theorem up_out {l : VL} (h : Up l) (k : Int) : Up (lo l k ++ hi l k) :=
  List.pairwise_append.2 ⟨up_lo h k, up_hi h k, fun a ha b hb => Int.lt_trans (mem_lo.1 ha).2 (mem_hi.1 hb).2⟩
theorem up_in {l : VL} (h : Up l) (k p : Int) : Up (lo l k ++ (k, p) :: hi l k) :=
  List.pairwise_append.2 ⟨up_lo h k, List.Pairwise.cons (fun b hb => (mem_hi.1 hb).2) (up_hi h k), fun a ha b hb => by
    rcases List.mem_cons.1 hb with rfl | hb
    · exact (mem_lo.1 ha).2
    · exact Int.lt_trans (mem_lo.1 ha).2 (mem_hi.1 hb).2⟩
theorem up_step {l l' : VL} {k p : Int} (h : Up l) (he : stepV l k p = .ok l') : Up l' := by
  unfold stepV at he
  split at he
  · cases he
  · split at he
    · split at he
      · cases he; exact up_out h k
      · cases he
    · cases he; exact up_in h k p
theorem lo_len (l : VL) (k : Int) : (lo l k).length ≤ l.length := List.length_filter_le _ _
theorem lohi_len (k : Int) : ∀ (l : VL), (lo l k).length + (hi l k).length ≤ l.length := by
  intro l
  induction l with
  | nil => simp [lo, hi]
  | cons a l ih =>
    unfold lo hi at ih ⊢
    by_cases h1 : a.1 < k
    · rw [List.filter_cons_of_pos (by simpa using h1), List.filter_cons_of_neg (by simp; omega)]
      simp only [List.length_cons]
      omega
    · rw [List.filter_cons_of_neg (by simpa using h1)]
      by_cases h2 : k < a.1
      · rw [List.filter_cons_of_pos (by simpa using h2)]
        simp only [List.length_cons]
        omega
      · rw [List.filter_cons_of_neg (by simpa using h2)]
        simp only [List.length_cons]
        omega
theorem step_len {l l' : VL} {k p : Int} (he : stepV l k p = .ok l') : l'.length ≤ l.length + 1 := by
  have h := lohi_len k l
  unfold stepV at he
  split at he
  · cases he
  · split at he
    · split at he
      · cases he; rw [List.length_append]; omega
      · cases he
    · cases he; rw [List.length_append, List.length_cons]; omega
end Go.Proofs.Ytlocapkofmpebaa
