/- What this text proves: plain laws of ways in trees of hashes: what a way is, where it leads, and what an accepted proof tells. No condition. -/
import Derived.Test.YtdeikpifflkabaaDoorMerPure
namespace Go.Proofs.YtdeikpifflkabaaDoor
open Go.RowKit
set_option linter.unusedVariables false
set_option linter.unusedSimpArgs false

/-- The turns from the root to the i-th of n leaves: on the left?, and where it is cut. -/
def turnsL (i n : Nat) : List (Bool × Nat) :=
  if h : 2 ≤ n then
    if i < splitN n then (true, splitN n) :: turnsL i (splitN n) else (false, splitN n) :: turnsL (i - splitN n) (n - splitN n)
  else []
termination_by n
decreasing_by
  · exact splitN_lt h
  · have := splitN_pos n
    omega
theorem turnsL_left {i n : Nat} (h : 2 ≤ n) (hi : i < splitN n) : turnsL i n = (true, splitN n) :: turnsL i (splitN n) := by rw [turnsL, dif_pos h, if_pos hi]
theorem turnsL_right {i n : Nat} (h : 2 ≤ n) (hi : ¬ i < splitN n) : turnsL i n = (false, splitN n) :: turnsL (i - splitN n) (n - splitN n) := by rw [turnsL, dif_pos h, if_neg hi]
theorem turnsL_end {i n : Nat} (h : ¬ 2 ≤ n) : turnsL i n = [] := by rw [turnsL, dif_neg h]
def dirs (i n : Nat) : List Bool := (turnsL i n).map (·.1)
theorem dirs_left {i n : Nat} (h : 2 ≤ n) (hi : i < splitN n) : dirs i n = true :: dirs i (splitN n) := by rw [dirs, turnsL_left h hi]; rfl
theorem dirs_right {i n : Nat} (h : 2 ≤ n) (hi : ¬ i < splitN n) : dirs i n = false :: dirs (i - splitN n) (n - splitN n) := by rw [dirs, turnsL_right h hi]; rfl
theorem dirs_end {i n : Nat} (h : ¬ 2 ≤ n) : dirs i n = [] := by rw [dirs, turnsL_end h]; rfl

/-- The way of the i-th entry. -/
def wayE (l : List Ent) (i : Nat) : List (List UInt8) :=
  if h : 2 ≤ l.length then
    if i < splitN l.length then wayE (l.take (splitN l.length)) i ++ [rootE (l.drop (splitN l.length))]
    else wayE (l.drop (splitN l.length)) (i - splitN l.length) ++ [rootE (l.take (splitN l.length))]
  else []
termination_by l.length
decreasing_by
  · have := splitN_lt h
    rw [List.length_take]
    omega
  · have := splitN_pos l.length
    rw [List.length_drop]
    omega
theorem wayE_left {l : List Ent} {i : Nat} (h : 2 ≤ l.length) (hi : i < splitN l.length) : wayE l i = wayE (l.take (splitN l.length)) i ++ [rootE (l.drop (splitN l.length))] := by rw [wayE, dif_pos h, if_pos hi]
theorem wayE_right {l : List Ent} {i : Nat} (h : 2 ≤ l.length) (hi : ¬ i < splitN l.length) : wayE l i = wayE (l.drop (splitN l.length)) (i - splitN l.length) ++ [rootE (l.take (splitN l.length))] := by rw [wayE, dif_pos h, if_neg hi]
theorem wayE_end {l : List Ent} {i : Nat} (h : ¬ 2 ≤ l.length) : wayE l i = [] := by rw [wayE, dif_neg h]
theorem wayE_32 : ∀ (n : Nat) (l : List Ent) (i : Nat), l.length = n → ∀ a ∈ wayE l i, a.length = 32 := by
  intro n
  induction n using Nat.strongRecOn with
  | _ n ih =>
    intro l i hn a ha
    by_cases h : 2 ≤ l.length
    · have hlt := splitN_lt h
      have hpos := splitN_pos l.length
      by_cases hi : i < splitN l.length
      · rw [wayE_left h hi, List.mem_append] at ha
        rcases ha with ha | ha
        · exact ih _ (by rw [List.length_take]; omega) _ _ rfl a ha
        · rw [List.mem_singleton] at ha; rw [ha, rootE_len]
      · rw [wayE_right h hi, List.mem_append] at ha
        rcases ha with ha | ha
        · exact ih _ (by rw [List.length_drop]; omega) _ _ rfl a ha
        · rw [List.mem_singleton] at ha; rw [ha, rootE_len]
    · rw [wayE_end h] at ha; cases ha
theorem wayE_len : ∀ (n : Nat) (l : List Ent) (i : Nat), l.length = n → (wayE l i).length = (turnsL i n).length := by
  intro n
  induction n using Nat.strongRecOn with
  | _ n ih =>
    intro l i hn
    by_cases h : 2 ≤ l.length
    · have hlt := splitN_lt h
      have hpos := splitN_pos l.length
      have h' : 2 ≤ n := by omega
      by_cases hi : i < splitN l.length
      · rw [wayE_left h hi, turnsL_left h' (by rw [← hn]; exact hi), List.length_append, ih (splitN n) (by rw [← hn]; exact hlt) _ _ (by rw [List.length_take, hn]; rw [hn] at hlt; omega)]
        rfl
      · rw [wayE_right h hi, turnsL_right h' (by rw [← hn]; exact hi), List.length_append, ih (n - splitN n) (by rw [← hn]; omega) _ _ (by rw [List.length_drop, hn]), hn]
        rfl
    · rw [wayE_end h, turnsL_end (by omega)]; rfl
/-- How deep: a way is no longer than the number of entries can be halved. -/
theorem pow_lt_half {a d : Nat} (h : 2 ^ a < 2 ^ (d + 1)) : 2 ^ a ≤ 2 ^ d := by
  rw [Nat.pow_lt_pow_iff_right (by omega)] at h
  exact Nat.pow_le_pow_right (by omega) (by omega)
theorem turnsL_deep : ∀ (d n i : Nat), n ≤ 2 ^ d → (turnsL i n).length ≤ d
  | 0, n, i, h => by rw [turnsL_end (by simp at h; omega)]; simp
  | d + 1, n, i, h => by
    by_cases h2 : 2 ≤ n
    · have hlt := splitN_lt h2
      have hge := splitN_ge h2
      have hk : splitN n ≤ 2 ^ d := pow_lt_half (a := Nat.log2 (n - 1)) (by unfold splitN at hlt; omega)
      by_cases hi : i < splitN n
      · rw [turnsL_left h2 hi, List.length_cons]
        have := turnsL_deep d (splitN n) i hk
        omega
      · rw [turnsL_right h2 hi, List.length_cons]
        have := turnsL_deep d (n - splitN n) (i - splitN n) (by omega)
        omega
    · rw [turnsL_end h2]; simp

/-- Where a way (from the root on) leads from a hash. -/
def upR (h : List UInt8) : Nat → Nat → List (List UInt8) → List UInt8 × Bool
  | i, n, [] => if n = 1 then (h, true) else (h, false)
  | i, n, x :: r => if n = 1 then (h, false) else
      if i < splitN n then (pairF (upR h i (splitN n) r).1 x, (upR h i (splitN n) r).2)
      else (pairF x (upR h (i - splitN n) (n - splitN n) r).1, (upR h (i - splitN n) (n - splitN n) r).2)
theorem upR_len {h : List UInt8} (hh : h.length = 32) : ∀ (r : List (List UInt8)) (i n : Nat), (upR h i n r).1.length = 32
  | [], i, n => by rw [upR]; split <;> exact hh
  | x :: r, i, n => by
    rw [upR]
    split
    · exact hh
    · split
      · exact pairF_len _ _
      · exact pairF_len _ _
theorem upR_ok {h : List UInt8} : ∀ (r : List (List UInt8)) (i n : Nat), 1 ≤ n → (upR h i n r).2 = decide (r.length = (turnsL i n).length)
  | [], i, n, hn => by
    rw [upR]
    by_cases h1 : n = 1
    · subst h1; rw [if_pos rfl, turnsL_end (by omega)]; rfl
    · rw [if_neg h1]
      by_cases hi : i < splitN n
      · rw [turnsL_left (by omega) hi]; rfl
      · rw [turnsL_right (by omega) hi]; rfl
  | x :: r, i, n, hn => by
    rw [upR]
    by_cases h1 : n = 1
    · subst h1; rw [if_pos rfl, turnsL_end (by omega)]; rfl
    · rw [if_neg h1]
      have hlt := splitN_lt (n := n) (by omega)
      have hpos := splitN_pos n
      by_cases hi : i < splitN n
      · rw [if_pos hi, turnsL_left (by omega) hi, upR_ok r i (splitN n) (by omega)]
        simp
      · rw [if_neg hi, turnsL_right (by omega) hi, upR_ok r _ (n - splitN n) (by omega)]
        simp
/-- A step from a leaf towards the root. -/
def stepUp (h : List UInt8) (s : Bool × List UInt8) : List UInt8 := if s.1 then pairF h s.2 else pairF s.2 h
theorem upR_fold {h : List UInt8} : ∀ (r : List (List UInt8)) (i n : Nat), 1 ≤ n → r.length = (turnsL i n).length → (upR h i n r).1 = (((dirs i n).zip r).reverse).foldl stepUp h
  | [], i, n, hn, hl => by
    rw [upR]
    split <;> simp
  | x :: r, i, n, hn, hl => by
    rw [upR]
    by_cases h1 : n = 1
    · subst h1; rw [turnsL_end (by omega)] at hl; cases hl
    · rw [if_neg h1]
      have hlt := splitN_lt (n := n) (by omega)
      have hpos := splitN_pos n
      by_cases hi : i < splitN n
      · rw [turnsL_left (by omega) hi] at hl
        rw [if_pos hi, dirs_left (by omega) hi, upR_fold r i (splitN n) (by omega) (by simpa using hl)]
        simp [stepUp]
      · rw [turnsL_right (by omega) hi] at hl
        rw [if_neg hi, dirs_right (by omega) hi, upR_fold r _ (n - splitN n) (by omega) (by simpa using hl)]
        simp [stepUp]
/-- What is hashed on a way. -/
def upT (h : List UInt8) : Nat → Nat → List (List UInt8) → List (List UInt8)
  | i, n, [] => []
  | i, n, x :: r => if n ≤ 1 then [] else
      if i < splitN n then upT h i (splitN n) r ++ [pairT (upR h i (splitN n) r).1 x]
      else upT h (i - splitN n) (n - splitN n) r ++ [pairT x (upR h (i - splitN n) (n - splitN n) r).1]
/-- A way leads back to the root. -/
theorem up_way : ∀ (n : Nat) (l : List Ent) (i : Nat) (e : Ent), l.length = n → l[i]? = some e → upR (leafF e) i n (wayE l i).reverse = (rootE l, true) := by
  intro n
  induction n using Nat.strongRecOn with
  | _ n ih =>
    intro l i e hn he
    have hil : i < l.length := (List.getElem?_eq_some_iff.1 he).1
    by_cases h : 2 ≤ l.length
    · have hlt := splitN_lt h
      have hpos := splitN_pos l.length
      have h1 : ¬ n = 1 := by omega
      by_cases hi : i < splitN l.length
      · have hi' : i < splitN n := by rw [← hn]; exact hi
        have := ih (splitN n) (by rw [← hn]; exact hlt) (l.take (splitN l.length)) i e (by rw [List.length_take, hn]; rw [hn] at hlt; omega) (by rw [List.getElem?_take, if_pos hi]; exact he)
        rw [wayE_left h hi, List.reverse_append, List.reverse_singleton, List.singleton_append, upR, if_neg h1, if_pos hi', this, rootE_two h]
      · have hi' : ¬ i < splitN n := by rw [← hn]; exact hi
        have := ih (n - splitN n) (by rw [← hn]; omega) (l.drop (splitN l.length)) (i - splitN n) e (by rw [List.length_drop, hn]) (by rw [List.getElem?_drop, hn, show splitN n + (i - splitN n) = i by omega]; exact he)
        rw [hn] at this
        rw [wayE_right h hi, List.reverse_append, List.reverse_singleton, List.singleton_append, upR, if_neg h1, if_neg hi', hn, this, rootE_two h, hn]
    · rcases short_cases h with rfl | ⟨x, rfl⟩
      · simp at hil
      · obtain rfl : n = 1 := by simpa using hn.symm
        obtain rfl : i = 0 := by simpa using hil
        simp at he
        subst he
        rw [wayE_end h, List.reverse_nil, upR, if_pos rfl, rootE_top, topT_one]
        rfl

/-- A list's part, down from the root. -/
def follow : List Bool → List Ent → List Ent
  | [], l => l
  | b :: r, l => if 2 ≤ l.length then follow r (if b then l.take (splitN l.length) else l.drop (splitN l.length)) else []
theorem follow_sub : ∀ (ds : List Bool) (l : List Ent), ∀ x ∈ follow ds l, x ∈ l
  | [], l, x, h => h
  | b :: r, l, x, h => by
    rw [follow] at h
    split at h
    · have := follow_sub r _ x h
      cases b
      · exact List.mem_of_mem_drop (by simpa using this)
      · exact List.mem_of_mem_take (by simpa using this)
    · cases h
attribute [local irreducible] digF
set_option maxRecDepth 100000 in
/-- What leads to the root is one of the entries. -/
theorem up_down : ∀ (r : List (List UInt8)) (i n : Nat) (l : List Ent) (e : Ent) (L : List (List UInt8)), 1 ≤ n → Fits l → e.1.size < 65536 → (∀ a ∈ r, a.length = 32) → ¬ Clashes L → (∀ x ∈ textsE l, x ∈ L) → leafT e ∈ L → (∀ x ∈ upT (leafF e) i n r, x ∈ L) →
    upR (leafF e) i n r = (rootE l, true) → follow (dirs i n) l = [e]
  | [], i, n, l, e, L, hn, hl, he, hr, hc, hL, hT, hU, h => by
    rw [upR] at h
    by_cases h1 : n = 1
    · subst h1
      rw [if_pos rfl] at h
      have h2 : leafF e = rootE l := (Prod.mk.inj h).1
      rw [rootE_top, leafF_eq] at h2
      have ht := not_clash hc hT (hL _ (top_mem l)) h2
      rw [dirs_end (by omega), follow]
      by_cases h' : 2 ≤ l.length
      · rw [topT_two h'] at ht; exact absurd ht (leafT_pairT _ _ _)
      · rcases short_cases h' with rfl | ⟨x, rfl⟩
        · cases ht
        · have := hl x (by simp)
          rw [leafT_inj he (by omega) ht]
    · rw [if_neg h1] at h
      cases (Prod.mk.inj h).2
  | x :: r, i, n, l, e, L, hn, hl, he, hr, hc, hL, hT, hU, h => by
    rw [upR] at h
    by_cases h1 : n = 1
    · rw [if_pos h1] at h; cases (Prod.mk.inj h).2
    · rw [if_neg h1] at h
      have h2n : 2 ≤ n := by omega
      have hlt := splitN_lt h2n
      have hpos := splitN_pos n
      have hx := hr x (by simp)
      have hr' : ∀ a ∈ r, a.length = 32 := fun a ha => hr a (by simp [ha])
      have down : ∀ a b : List UInt8, a.length = 32 → pairT a b ∈ L → pairF a b = rootE l → 2 ≤ l.length ∧ a = rootE (l.take (splitN l.length)) ∧ b = rootE (l.drop (splitN l.length)) := fun a b ha hp hq => by
        rw [rootE_top, pairF_eq] at hq
        have ht := not_clash hc hp (hL _ (top_mem l)) hq
        by_cases h' : 2 ≤ l.length
        · rw [topT_two h'] at ht
          obtain ⟨q1, q2⟩ := pairT_inj (by rw [ha, rootE_len]) ht
          exact ⟨h', q1, q2⟩
        · rcases short_cases h' with rfl | ⟨y, rfl⟩
          · cases ht
          · exact absurd ht.symm (leafT_pairT _ _ _)
      by_cases hi : i < splitN n
      · rw [if_pos hi] at h
        obtain ⟨q, q'⟩ := Prod.mk.inj h
        rw [upT, if_neg (by omega), if_pos hi] at hU
        obtain ⟨d1, d2, d3⟩ := down _ _ (upR_len (leafF_len e) _ _ _) (hU _ (by simp)) q
        rw [dirs_left h2n hi, follow, if_pos d1]
        refine up_down r i (splitN n) _ e L (by omega) (hl.take _) he hr' hc (fun y hy => hL y (by rw [textsE_two d1]; simp only [if_true] at hy; simp [hy])) hT (fun y hy => hU y (by simp [hy])) (Prod.ext ?_ q')
        simpa using d2
      · rw [if_neg hi] at h
        obtain ⟨q, q'⟩ := Prod.mk.inj h
        rw [upT, if_neg (by omega), if_neg hi] at hU
        obtain ⟨d1, d2, d3⟩ := down _ _ hx (hU _ (by simp)) q
        rw [dirs_right h2n hi, follow, if_pos d1]
        refine up_down r _ (n - splitN n) _ e L (by omega) (hl.drop _) he hr' hc (fun y hy => hL y (by rw [textsE_two d1]; simp at hy; simp [hy])) hT (fun y hy => hU y (by simp [hy])) (Prod.ext ?_ q')
        simpa using d3

/-- All on the left, all on the right. -/
theorem follow_first : ∀ (n : Nat) (l : List Ent) (e : Ent), follow (dirs 0 n) l = [e] → ∃ r, l = e :: r := by
  intro n
  induction n using Nat.strongRecOn with
  | _ n ih =>
    intro l e h
    by_cases h2 : 2 ≤ n
    · rw [dirs_left h2 (splitN_pos n), follow] at h
      split at h
      · rename_i h3
        obtain ⟨r, hr⟩ := ih _ (splitN_lt h2) _ e h
        simp only [if_true] at hr
        refine ⟨r ++ l.drop (splitN l.length), ?_⟩
        rw [← List.cons_append, ← hr, List.take_append_drop]
      · cases h
    · rw [dirs_end h2, follow] at h
      exact ⟨[], h⟩
theorem follow_last : ∀ (n : Nat) (l : List Ent) (e : Ent), 1 ≤ n → follow (dirs (n - 1) n) l = [e] → ∃ r, l = r ++ [e] := by
  intro n
  induction n using Nat.strongRecOn with
  | _ n ih =>
    intro l e hn h
    by_cases h2 : 2 ≤ n
    · have hlt := splitN_lt h2
      have hpos := splitN_pos n
      rw [dirs_right h2 (by omega), follow] at h
      split at h
      · rename_i h3
        rw [show n - 1 - splitN n = (n - splitN n) - 1 by omega] at h
        obtain ⟨r, hr⟩ := ih (n - splitN n) (by omega) _ e (by omega) h
        simp only [Bool.false_eq_true, if_false] at hr
        refine ⟨l.take (splitN l.length) ++ r, ?_⟩
        rw [List.append_assoc, ← hr, List.take_append_drop]
      · cases h
    · rw [dirs_end h2, follow] at h
      exact ⟨[], h⟩
theorem follow_two : ∀ (n : Nat) (l : List Ent) (i : Nat) (a b : Ent), i + 1 < n → follow (dirs i n) l = [a] → follow (dirs (i + 1) n) l = [b] → ∃ r s, l = r ++ a :: b :: s := by
  intro n
  induction n using Nat.strongRecOn with
  | _ n ih =>
    intro l i a b hn h h'
    have h2 : 2 ≤ n := by omega
    have hlt := splitN_lt h2
    have hpos := splitN_pos n
    by_cases h1 : i + 1 < splitN n
    · rw [dirs_left h2 (by omega), follow] at h
      rw [dirs_left h2 h1, follow] at h'
      split at h
      · rename_i h3
        rw [if_pos h3] at h'
        obtain ⟨r, s, hrs⟩ := ih _ hlt _ i a b h1 h h'
        simp only [if_true] at hrs
        refine ⟨r, s ++ l.drop (splitN l.length), ?_⟩
        rw [show r ++ a :: b :: (s ++ l.drop (splitN l.length)) = (r ++ a :: b :: s) ++ l.drop (splitN l.length) by simp, ← hrs, List.take_append_drop]
      · cases h
    · by_cases h1' : i < splitN n
      · have hk : splitN n = i + 1 := by omega
        rw [dirs_left h2 h1', follow] at h
        rw [dirs_right h2 h1, follow] at h'
        split at h
        · rename_i h3
          rw [if_pos h3] at h'
          simp only [if_true] at h
          rw [show i = splitN n - 1 by omega] at h
          obtain ⟨r, hr⟩ := follow_last _ _ a (by omega) h
          simp only [Bool.false_eq_true, if_false] at h'
          rw [show i + 1 - splitN n = 0 by omega] at h'
          obtain ⟨s, hs⟩ := follow_first _ _ b h'
          refine ⟨r, s, ?_⟩
          rw [show r ++ a :: b :: s = (r ++ [a]) ++ (b :: s) by simp, ← hr, ← hs, List.take_append_drop]
        · cases h
      · rw [dirs_right h2 h1', follow] at h
        rw [dirs_right h2 h1, follow] at h'
        split at h
        · rename_i h3
          rw [if_pos h3] at h'
          rw [show i + 1 - splitN n = (i - splitN n) + 1 by omega] at h'
          obtain ⟨r, s, hrs⟩ := ih (n - splitN n) (by omega) _ (i - splitN n) a b (by omega) h h'
          simp only [Bool.false_eq_true, if_false] at hrs
          refine ⟨l.take (splitN l.length) ++ r, s, ?_⟩
          rw [List.append_assoc, ← hrs, List.take_append_drop]
        · cases h
end Go.Proofs.YtdeikpifflkabaaDoor
