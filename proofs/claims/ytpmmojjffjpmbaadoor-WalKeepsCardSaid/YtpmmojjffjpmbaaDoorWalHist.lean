/- What this text proves: plain facts on what a tape's steps hold while a log writes on it: what was synced is in each later step, and whatever a loss of power leaves is a beginning with it. No condition. -/
import Derived.Test.YtpmmojjffjpmbaaDoorWalPl
namespace Go.Proofs.YtpmmojjffjpmbaaDoor
open Go.RowKit
set_option linter.unusedVariables false
set_option linter.unusedSimpArgs false

abbrev StepV := List UInt8 × Nat
/-- N: behind each operation how many steps there were, and how many records were safe; ls: the records; n: the tape now; syn: how many are synced. -/
structure Hist (N : List (Nat × Nat)) (st : List StepV) (ls : List (List UInt8)) (n : StepV) (syn : Nat) : Prop where
  good : ∀ r ∈ ls, goodR r
  pre : ∀ s ∈ st, s.1 <+: framesF ckW ls
  pairs : ∀ p ∈ N, 1 ≤ p.1 ∧ p.1 ≤ st.length ∧ p.2 ≤ ls.length ∧ ∀ m s, p.1 ≤ m + 1 → st[m]? = some s → (framesF ckW (ls.take p.2)).length ≤ s.2
  last : st ≠ [] ∧ st[st.length - 1]? = some n
  now : n.1 = framesF ckW ls
  syn : syn ≤ ls.length ∧ (framesF ckW (ls.take syn)).length ≤ n.2
section
variable {N : List (Nat × Nat)} {st : List StepV} {ls : List (List UInt8)} {n : StepV} {syn : Nat}
theorem Hist.start : Hist [(1, 0)] [([], 0)] [] ([], 0) 0 :=
  ⟨by simp, fun s hs => by rw [List.mem_singleton] at hs; subst hs; exact List.nil_prefix, fun p hp => by
    rw [List.mem_singleton] at hp
    subst hp
    refine ⟨Nat.le_refl _, Nat.le_refl _, Nat.le_refl _, fun m s _ _ => ?_⟩
    simp [framesF], ⟨by simp, rfl⟩, rfl, Nat.le_refl _, by simp [framesF]⟩
theorem Hist.last_of (h : Hist N st ls n syn) {m : Nat} {s : StepV} (hm : st.length ≤ m + 1) (hs : st[m]? = some s) : s = n := by
  have hl := (List.getElem?_eq_some_iff.1 hs).1
  have : m = st.length - 1 := by omega
  subst this
  rw [h.last.2] at hs
  exact (Option.some.inj hs).symm
/-- An operation that did nothing to the tape. -/
theorem Hist.same (h : Hist N st ls n syn) : Hist (N ++ [(st.length, syn)]) st ls n syn := by
  refine ⟨h.good, h.pre, fun p hp => ?_, h.last, h.now, h.syn⟩
  rcases List.mem_append.1 hp with hp | hp
  · exact h.pairs p hp
  · rw [List.mem_singleton] at hp
    subst hp
    have hl : 0 < st.length := List.length_pos_iff.2 h.last.1
    exact ⟨hl, Nat.le_refl _, h.syn.1, fun m s hm hs => by rw [h.last_of hm hs]; exact h.syn.2⟩
theorem Hist.sync (h : Hist N st ls n syn) : Hist (N ++ [(st.length + 1, ls.length)]) (st ++ [(n.1, n.1.length)]) ls (n.1, n.1.length) ls.length := by
  have hl : 0 < st.length := List.length_pos_iff.2 h.last.1
  have hfl : ∀ u, (framesF ckW (ls.take u)).length ≤ n.1.length := fun u => by rw [h.now]; exact (framesF_take_prefix ls u).length_le
  refine ⟨h.good, fun s hs => ?_, fun p hp => ?_, ⟨by simp, by simp⟩, h.now, Nat.le_refl _, hfl _⟩
  · rcases List.mem_append.1 hs with hs | hs
    · exact h.pre s hs
    · rw [List.mem_singleton] at hs
      subst hs
      rw [h.now]
      exact List.prefix_refl _
  · have hnew : ∀ m s u, (m < st.length → st[m]? = some s → (framesF ckW (ls.take u)).length ≤ s.2) → (st ++ [(n.1, n.1.length)])[m]? = some s → (framesF ckW (ls.take u)).length ≤ s.2 := fun m s u hh hs => by
      rcases Nat.lt_or_ge m st.length with hm | hm
      · rw [List.getElem?_append_left hm] at hs
        exact hh hm hs
      · rw [List.getElem?_append_right hm] at hs
        have := (List.getElem?_eq_some_iff.1 hs).1
        have h0 : m - st.length = 0 := by simp at this; omega
        rw [h0] at hs
        simp at hs
        subst hs
        exact hfl u
    rcases List.mem_append.1 hp with hp | hp
    · obtain ⟨h1, h2, h3, h4⟩ := h.pairs p hp
      exact ⟨h1, by simp; omega, h3, fun m s hm hs => hnew m s _ (fun _ hs' => h4 m s hm hs') hs⟩
    · rw [List.mem_singleton] at hp
      subst hp
      exact ⟨by simp, by simp, Nat.le_refl _, fun m s hm hs => hnew m s _ (fun hlt _ => by simp only at hm; omega) hs⟩
theorem Hist.snoc (h : Hist N st ls n syn) {r : List UInt8} (hr : goodR r) : Hist (N ++ [(st.length + 1, syn)]) (st ++ [(n.1 ++ frameF ckW r, n.2)]) (ls ++ [r]) (n.1 ++ frameF ckW r, n.2) syn := by
  have hl : 0 < st.length := List.length_pos_iff.2 h.last.1
  have hft : ∀ u, u ≤ ls.length → (ls ++ [r]).take u = ls.take u := fun u hu => List.take_append_of_le_length hu
  refine ⟨fun q hq => ?_, fun s hs => ?_, fun p hp => ?_, ⟨by simp, by simp⟩, by rw [framesF_snoc, ← h.now], by simp only [List.length_append]; exact Nat.le_add_right_of_le h.syn.1, by rw [hft _ h.syn.1]; exact h.syn.2⟩
  · rcases List.mem_append.1 hq with hq | hq
    · exact h.good q hq
    · rw [List.mem_singleton] at hq
      subst hq
      exact hr
  · rcases List.mem_append.1 hs with hs | hs
    · exact (h.pre s hs).trans (by rw [framesF_snoc]; exact List.prefix_append _ _)
    · rw [List.mem_singleton] at hs
      subst hs
      rw [framesF_snoc, ← h.now]
      exact List.prefix_refl _
  · have hnew : ∀ m s u, u ≤ ls.length → (framesF ckW (ls.take u)).length ≤ n.2 → (m < st.length → st[m]? = some s → (framesF ckW (ls.take u)).length ≤ s.2) → (st ++ [(n.1 ++ frameF ckW r, n.2)])[m]? = some s → (framesF ckW ((ls ++ [r]).take u)).length ≤ s.2 := fun m s u hu hn hh hs => by
      rw [hft u hu]
      rcases Nat.lt_or_ge m st.length with hm | hm
      · rw [List.getElem?_append_left hm] at hs
        exact hh hm hs
      · rw [List.getElem?_append_right hm] at hs
        have := (List.getElem?_eq_some_iff.1 hs).1
        have h0 : m - st.length = 0 := by simp at this; omega
        rw [h0] at hs
        simp at hs
        subst hs
        exact hn
    rcases List.mem_append.1 hp with hp | hp
    · obtain ⟨h1, h2, h3, h4⟩ := h.pairs p hp
      have hn : (framesF ckW (ls.take p.2)).length ≤ n.2 := h4 (st.length - 1) n (by omega) h.last.2
      exact ⟨h1, by simp; omega, by simp; omega, fun m s hm hs => hnew m s _ h3 hn (fun _ hs' => h4 m s hm hs') hs⟩
    · rw [List.mem_singleton] at hp
      subst hp
      have hsy := h.syn.1
      exact ⟨by simp, by simp, by simp; omega, fun m s hm hs => hnew m s _ h.syn.1 h.syn.2 (fun hlt _ => by simp only at hm; omega) hs⟩

/-- What a loss of power leaves. -/
theorem Hist.cut (h : Hist N st ls n syn) (hok : ∀ s ∈ st, okStep s) {f : StepV} {at_ : Nat} (ha1 : 1 ≤ at_) (ha2 : at_ ≤ st.length) (t : Int) {least : Nat} (hleast : least = 0 ∨ ∃ p ∈ N, least = p.2 ∧ p.1 ≤ at_) {p : StepV} (hp : cutStep f st (at_ : Int) t = p) :
    ∃ j, j ≤ ls.length ∧ least ≤ j ∧ scanW ckW p.1 = ls.take j ∧ p.2 = p.1.length := by
  obtain ⟨m, rfl⟩ : ∃ m, at_ = m + 1 := ⟨at_ - 1, by omega⟩
  obtain ⟨s, hs⟩ : ∃ s, st[m]? = some s := ⟨_, List.getElem?_eq_getElem (by omega)⟩
  have hpk : (pickI ((m + 1 : Nat) : Int) (st.length + 1)).toNat = m + 1 := by
    unfold pickI
    rw [if_neg (by omega), Int.emod_eq_of_lt (by omega) (by omega)]
    rfl
  have hsg : (f :: st).getD (m + 1) ([], 0) = s := by rw [List.getD_eq_getElem?_getD, List.getElem?_cons_succ, hs]; rfl
  unfold cutStep at hp
  simp only [hpk, hsg] at hp
  obtain ⟨hok1, hok2⟩ := hok s (List.mem_of_getElem? hs)
  have hb := pickI_bd t ((s.1.length : Int) - s.2 + 1) (by omega)
  obtain ⟨u, hu⟩ : ∃ u, s.2 + (pickI t ((s.1.length : Int) - s.2 + 1)).toNat = u := ⟨_, rfl⟩
  rw [hu] at hp
  have hu1 : s.2 ≤ u := by omega
  have hu2 : u ≤ s.1.length := by omega
  subst hp
  have hpl : (s.1.take u).length = u := by rw [List.length_take]; omega
  obtain ⟨j, hj1, hj2, hj3⟩ := scanW_prefix ckW_len ls (s.1.take u) h.good ((List.take_prefix _ _).trans (h.pre s (List.mem_of_getElem? hs)))
  refine ⟨j, hj1, ?_, hj2, hpl.symm⟩
  rcases hleast with rfl | ⟨q, hq, rfl, hq2⟩
  · exact Nat.zero_le _
  · obtain ⟨_, _, g3, g4⟩ := h.pairs q hq
    exact hj3 q.2 g3 (by rw [hpl]; exact Nat.le_trans (g4 m s hq2 hs) hu1)
/-- Power goes again behind the opening. -/
theorem cut_again {p : StepV} (hp : p.2 = p.1.length) (a t : Int) : scanW ckW (cutStep p [(framesF ckW (scanW ckW p.1), (framesF ckW (scanW ckW p.1)).length)] a t).1 = scanW ckW p.1 := by
  have hb := pickI_bd a 2 (by omega)
  have h1 : ∀ s : StepV, s.2 = s.1.length → (s.1.take (s.2 + (pickI t ((s.1.length : Int) - s.2 + 1)).toNat)) = s.1 := fun s hs => List.take_of_length_le (by omega)
  unfold cutStep
  rcases (by omega : (pickI a 2).toNat = 0 ∨ (pickI a 2).toNat = 1) with h0 | h0
  · simp only [List.length_cons, List.length_nil, Nat.zero_add, Int.natCast_one, show (1 : Int) + 1 = 2 from rfl, h0, List.getD_cons_zero]
    rw [h1 p hp]
  · simp only [List.length_cons, List.length_nil, Nat.zero_add, Int.natCast_one, show (1 : Int) + 1 = 2 from rfl, h0, List.getD_cons_succ, List.getD_cons_zero]
    have := h1 (framesF ckW (scanW ckW p.1), (framesF ckW (scanW ckW p.1)).length) rfl
    simp only at this
    rw [this]
    exact scanW_again0 ckW_len p.1
end
end Go.Proofs.YtpmmojjffjpmbaaDoor
