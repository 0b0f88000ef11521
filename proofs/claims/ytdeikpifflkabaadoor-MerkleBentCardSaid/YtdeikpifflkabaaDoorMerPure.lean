/- What this text proves: plain facts of trees of hashes: where a list is split, the root of hashes. No condition. plain laws of trees of hashes: which texts are hashed, equal roots, ways, what an accepted proof tells. No condition. how lists of entries and of hashes lie in memory. No condition. when two entries are one, as the model compares them. No condition. -/
import Derived.Test.YtdeikpifflkabaaDoorBlakeJoin
import Derived.Laws.StructEq
namespace Go.Proofs.YtdeikpifflkabaaDoor
open Go.RowKit
set_option linter.unusedVariables false
set_option linter.unusedSimpArgs false

/-- An entry: its key, its value. -/
abbrev Ent := ByteArray × ByteArray
def eCells (l : List Ent) : List Value := l.flatMap fun e => [.string e.1, .string e.2]
/-- A key is less than another. -/
def ltK (a b : ByteArray) : Bool := Op.bytesLess a.toList b.toList
/-- Rising keys. -/
def ascK : List Ent → Bool
  | [] => true
  | [_] => true
  | a :: b :: l => ltK a.1 b.1 && ascK (b :: l)
def sizeK (e : Ent) : Bool := decide (e.1.size ≤ 4096) && decide (e.2.size ≤ 4096)
/-- Whether entries may be. -/
def rightE (l : List Ent) : Bool := (l.all sizeK && ascK l) && decide (l.length ≤ 4096)
/-- A text's bytes, with their number ahead. -/
def lenB (s : ByteArray) : List UInt8 := [UInt8.ofNat (s.size / 256 % 256), UInt8.ofNat (s.size % 256)]
/-- An entry's hash; the hash of two. -/
def leafF (e : Ent) : List UInt8 := digF (0 :: (lenB e.1 ++ e.1.data.toList ++ e.2.data.toList))
def pairF (a b : List UInt8) : List UInt8 := digF (1 :: (a ++ b))
theorem leafF_len (e : Ent) : (leafF e).length = 32 := digF_len _
theorem pairF_len (a b : List UInt8) : (pairF a b).length = 32 := digF_len _

/-- Where n things are split: the greatest power of two less than n. -/
def splitN (n : Nat) : Nat := 2 ^ Nat.log2 (n - 1)
theorem splitN_pos (n : Nat) : 0 < splitN n := Nat.two_pow_pos _
theorem splitN_lt {n : Nat} (h : 2 ≤ n) : splitN n < n := by
  have := Nat.log2_self_le (n := n - 1) (by omega)
  unfold splitN
  omega
theorem splitN_ge {n : Nat} (h : 2 ≤ n) : n ≤ 2 * splitN n := by
  have := Nat.lt_log2_self (n := n - 1)
  rw [Nat.pow_succ] at this
  unfold splitN
  omega
/-- It is the only such power. -/
theorem splitN_of {n k : Nat} (h : 2 ≤ n) (hk : 2 ^ k < n) (hk2 : n ≤ 2 * 2 ^ k) : splitN n = 2 ^ k := by
  unfold splitN
  congr 1
  refine (Nat.log2_eq_iff (by omega)).2 ⟨by omega, ?_⟩
  rw [Nat.pow_succ]
  omega

/-- The root of hashes. -/
def rootF (l : List (List UInt8)) : List UInt8 :=
  if h : 2 ≤ l.length then
    pairF (rootF (l.take (splitN l.length))) (rootF (l.drop (splitN l.length)))
  else l.headD (digF [])
termination_by l.length
decreasing_by
  · have := splitN_lt h
    rw [List.length_take]
    omega
  · have := splitN_pos l.length
    rw [List.length_drop]
    omega
theorem rootF_nil : rootF [] = digF [] := by rw [rootF]; simp
theorem rootF_one (a : List UInt8) : rootF [a] = a := by rw [rootF]; simp
theorem rootF_two {l : List (List UInt8)} (h : 2 ≤ l.length) : rootF l = pairF (rootF (l.take (splitN l.length))) (rootF (l.drop (splitN l.length))) := by
  rw [rootF, dif_pos h]
theorem rootF_len {l : List (List UInt8)} (h : ∀ a ∈ l, a.length = 32) : (rootF l).length = 32 := by
  by_cases h2 : 2 ≤ l.length
  · rw [rootF_two h2, pairF_len]
  · match l, h, h2 with
    | [], _, _ => rw [rootF_nil, digF_len]
    | [a], h, _ => rw [rootF_one]; exact h a (by simp)
    | a :: b :: l, _, h2 => exact absurd (by simp) h2
/-- The root of entries. -/
def rootE (l : List Ent) : List UInt8 := rootF (l.map leafF)
theorem rootE_len (l : List Ent) : (rootE l).length = 32 := rootF_len fun a ha => by
  obtain ⟨e, _, rfl⟩ := List.mem_map.1 ha
  exact leafF_len e
end Go.Proofs.YtdeikpifflkabaaDoor

namespace Go.Proofs.YtdeikpifflkabaaDoor
open Go.RowKit
set_option linter.unusedVariables false
set_option linter.unusedSimpArgs false

/-! Strings in order. -/
theorem less_is : ∀ (x y : List UInt8), Op.bytesLess x y = decide (x < y)
  | [], [] => by simp [Op.bytesLess]
  | _ :: _, [] => by simp [Op.bytesLess]
  | [], _ :: _ => by simp [Op.bytesLess]
  | a :: x, b :: y => by
    rw [Op.bytesLess, less_is x y]
    simp only [List.cons_lt_cons_iff]
    by_cases h1 : a < b <;> by_cases h2 : a = b <;> by_cases h3 : x < y <;> simp [h1, h2, h3]
theorem ltK_is (a b : ByteArray) : ltK a b = decide (a.data.toList < b.data.toList) := by
  rw [ltK, less_is, ByteArray.toList_eq, ByteArray.toList_eq]
theorem ltK_irrefl (a : ByteArray) : ltK a a = false := by
  rw [ltK_is, decide_eq_false_iff_not]
  exact List.lt_irrefl _
theorem ltK_trans {a b c : ByteArray} (h : ltK a b = true) (h' : ltK b c = true) : ltK a c = true := by
  rw [ltK_is, decide_eq_true_eq] at *
  exact List.lt_trans h h'
theorem ltK_asymm {a b : ByteArray} (h : ltK a b = true) : ltK b a = false := by
  cases h' : ltK b a with
  | false => rfl
  | true => exact (ltK_trans h h').symm.trans (ltK_irrefl a)
theorem ltK_total {a b : ByteArray} (h : ltK a b = false) (h' : ltK b a = false) : a = b := by
  rw [ltK_is, decide_eq_false_iff_not] at *
  have h1 : a.data.toList ≤ b.data.toList := List.not_lt.1 h'
  have h2 : b.data.toList ≤ a.data.toList := List.not_lt.1 h
  have h3 : a.data.toList = b.data.toList := List.le_antisymm h1 h2
  have h4 : a.data = b.data := Array.toList_inj.1 h3
  cases a; cases b; simp only at h4; rw [h4]
theorem eqK (a b : ByteArray) : (a.toList == b.toList) = decide (a = b) := by
  rw [ByteArray.toList_eq, ByteArray.toList_eq]
  by_cases h : a = b
  · subst h; simp
  · rw [decide_eq_false h]
    refine beq_eq_false_iff_ne.2 fun e => h ?_
    have h4 : a.data = b.data := Array.toList_inj.1 e
    cases a; cases b; simp only at h4; rw [h4]

/-! What is hashed. -/
def leafT (e : Ent) : List UInt8 := 0 :: (lenB e.1 ++ e.1.data.toList ++ e.2.data.toList)
def pairT (a b : List UInt8) : List UInt8 := 1 :: (a ++ b)
theorem leafF_eq (e : Ent) : leafF e = digF (leafT e) := rfl
theorem pairF_eq (a b : List UInt8) : pairF a b = digF (pairT a b) := rfl
def topT (l : List Ent) : List UInt8 :=
  if 2 ≤ l.length then pairT (rootE (l.take (splitN l.length))) (rootE (l.drop (splitN l.length)))
  else (l.map leafT).headD []
theorem topT_two {l : List Ent} (h : 2 ≤ l.length) : topT l = pairT (rootE (l.take (splitN l.length))) (rootE (l.drop (splitN l.length))) := by rw [topT, if_pos h]
theorem topT_nil : topT [] = [] := rfl
theorem topT_one (e : Ent) : topT [e] = leafT e := rfl
theorem rootE_two {l : List Ent} (h : 2 ≤ l.length) : rootE l = pairF (rootE (l.take (splitN l.length))) (rootE (l.drop (splitN l.length))) := by
  unfold rootE
  rw [rootF_two (by rw [List.length_map]; exact h), List.length_map, List.map_take, List.map_drop]
theorem short_cases {l : List Ent} (h : ¬ 2 ≤ l.length) : l = [] ∨ ∃ e, l = [e] := by
  match l, h with
  | [], _ => exact .inl rfl
  | [e], _ => exact .inr ⟨e, rfl⟩
  | _ :: _ :: _, h => exact absurd (by simp) h
theorem rootE_top (l : List Ent) : rootE l = digF (topT l) := by
  by_cases h : 2 ≤ l.length
  · rw [rootE_two h, topT_two h]; rfl
  · rcases short_cases h with rfl | ⟨e, rfl⟩
    · rw [topT_nil]; unfold rootE; rw [List.map_nil, rootF_nil]
    · rw [topT_one]; unfold rootE; rw [List.map_cons, List.map_nil, rootF_one]; rfl
def textsE (l : List Ent) : List (List UInt8) :=
  if h : 2 ≤ l.length then textsE (l.take (splitN l.length)) ++ textsE (l.drop (splitN l.length)) ++ [topT l] else [topT l]
termination_by l.length
decreasing_by
  · have := splitN_lt h
    rw [List.length_take]
    omega
  · have := splitN_pos l.length
    rw [List.length_drop]
    omega
theorem textsE_two {l : List Ent} (h : 2 ≤ l.length) : textsE l = textsE (l.take (splitN l.length)) ++ textsE (l.drop (splitN l.length)) ++ [topT l] := by
  rw [textsE, dif_pos h]
theorem textsE_short {l : List Ent} (h : ¬ 2 ≤ l.length) : textsE l = [topT l] := by rw [textsE, dif_neg h]
theorem top_mem (l : List Ent) : topT l ∈ textsE l := by
  by_cases h : 2 ≤ l.length
  · rw [textsE_two h]; simp
  · rw [textsE_short h]; simp
/-- Two unlike texts with one digest. -/
def Clashes (L : List (List UInt8)) : Prop := ∃ a ∈ L, ∃ b ∈ L, digF a = digF b ∧ a ≠ b
theorem not_clash {L : List (List UInt8)} (h : ¬ Clashes L) {a b : List UInt8} (ha : a ∈ L) (hb : b ∈ L) (he : digF a = digF b) : a = b := by
  by_cases e : a = b
  · exact e
  · exact absurd ⟨a, ha, b, hb, he, e⟩ h
/-- How much is asked about. -/
def Fits (l : List Ent) : Prop := ∀ e ∈ l, e.1.size ≤ 300 ∧ e.2.size ≤ 300
theorem Fits.take {l : List Ent} (h : Fits l) (k : Nat) : Fits (l.take k) := fun e he => h e (List.mem_of_mem_take he)
theorem Fits.drop {l : List Ent} (h : Fits l) (k : Nat) : Fits (l.drop k) := fun e he => h e (List.mem_of_mem_drop he)
theorem lenB_inj {a b : ByteArray} (ha : a.size < 65536) (hb : b.size < 65536) (h : lenB a = lenB b) : a.size = b.size := by
  unfold lenB at h
  simp only [List.cons.injEq, and_true] at h
  have h1 := congrArg UInt8.toNat h.1
  have h2 := congrArg UInt8.toNat h.2
  rw [UInt8.toNat_ofNat', UInt8.toNat_ofNat'] at h1 h2
  omega
theorem bytes_ext {a b : ByteArray} (h : a.data.toList = b.data.toList) : a = b := by
  have h4 : a.data = b.data := Array.toList_inj.1 h
  cases a; cases b; simp only at h4; rw [h4]
theorem leafT_inj {a b : Ent} (ha : a.1.size < 65536) (hb : b.1.size < 65536) (h : leafT a = leafT b) : a = b := by
  obtain ⟨ak, av⟩ := a
  obtain ⟨bk, bv⟩ := b
  unfold leafT at h
  simp only [List.cons.injEq, true_and, List.append_assoc] at h
  simp only at ha hb
  have h1 : lenB ak = lenB bk ∧ ak.data.toList ++ av.data.toList = bk.data.toList ++ bv.data.toList := List.append_inj h rfl
  have h2 := lenB_inj ha hb h1.1
  have h3 : ak.data.toList = bk.data.toList ∧ av.data.toList = bv.data.toList := List.append_inj h1.2 (by rw [Array.length_toList, Array.length_toList]; exact h2)
  rw [bytes_ext h3.1, bytes_ext h3.2]
theorem pairT_inj {a b c d : List UInt8} (h1 : a.length = c.length) (h : pairT a b = pairT c d) : a = c ∧ b = d := by
  unfold pairT at h
  simp only [List.cons.injEq, true_and] at h
  exact List.append_inj h h1
theorem leafT_pairT (e : Ent) (a b : List UInt8) : leafT e ≠ pairT a b := by
  unfold leafT pairT
  simp
theorem take_drop_ext {l m : List Ent} {j k : Nat} (h1 : l.take j = m.take k) (h2 : l.drop j = m.drop k) : l = m := by
  rw [← List.take_append_drop j l, ← List.take_append_drop k m, h1, h2]
/-- One root, one list. -/
theorem same_of_root : ∀ (n : Nat) (l m : List Ent), l.length = n → Fits l → Fits m → (∀ a ∈ textsE l, ∀ b ∈ textsE m, digF a = digF b → a = b) → rootE l = rootE m → l = m := by
  intro n
  induction n using Nat.strongRecOn with
  | _ n ih =>
    intro l m hn hl hm hc hr
    rw [rootE_top, rootE_top] at hr
    have ht := hc _ (top_mem l) _ (top_mem m) hr
    by_cases h : 2 ≤ l.length
    · by_cases h' : 2 ≤ m.length
      · rw [topT_two h, topT_two h'] at ht
        obtain ⟨e1, e2⟩ := pairT_inj (by rw [rootE_len, rootE_len]) ht
        have hlt := splitN_lt h
        have hpos := splitN_pos l.length
        have i1 := ih _ (by rw [List.length_take]; omega) (l.take (splitN l.length)) (m.take (splitN m.length)) rfl (hl.take _) (hm.take _) (fun a ha b hb => hc a (by rw [textsE_two h]; simp [ha]) b (by rw [textsE_two h']; simp [hb])) e1
        have i2 := ih _ (by rw [List.length_drop]; omega) (l.drop (splitN l.length)) (m.drop (splitN m.length)) rfl (hl.drop _) (hm.drop _) (fun a ha b hb => hc a (by rw [textsE_two h]; simp [ha]) b (by rw [textsE_two h']; simp [hb])) e2
        exact take_drop_ext i1 i2
      · rw [topT_two h] at ht
        rcases short_cases h' with rfl | ⟨e, rfl⟩
        · cases ht
        · exact absurd ht.symm (leafT_pairT _ _ _)
    · rcases short_cases h with rfl | ⟨e, rfl⟩
      · by_cases h' : 2 ≤ m.length
        · rw [topT_two h'] at ht; cases ht
        · rcases short_cases h' with rfl | ⟨e, rfl⟩
          · rfl
          · cases ht
      · by_cases h' : 2 ≤ m.length
        · rw [topT_two h'] at ht; exact absurd ht (leafT_pairT _ _ _)
        · rcases short_cases h' with rfl | ⟨e', rfl⟩
          · cases ht
          · have h1 := hl e (by simp)
            have h2 := hm e' (by simp)
            rw [leafT_inj (by omega) (by omega) ht]
theorem other_tree {l m : List Ent} (hl : Fits l) (hm : Fits m) (hr : rootE l = rootE m) (hne : l ≠ m) : Clashes (textsE l ++ textsE m) := by
  refine Classical.byContradiction fun hc => hne ?_
  exact same_of_root _ l m rfl hl hm (fun a ha b hb he => not_clash hc (by simp [ha]) (by simp [hb]) he) hr
end Go.Proofs.YtdeikpifflkabaaDoor

namespace Go.Proofs.YtdeikpifflkabaaDoor
open Go.RowKit
set_option linter.unusedVariables false
set_option linter.unusedSimpArgs false

theorem flat_len' {β : Type} {s : Nat} (f : β → List Value) : ∀ l : List β, (∀ b ∈ l, (f b).length = s) → (l.flatMap f).length = l.length * s
  | [], _ => by simp
  | b :: l, hf => by
    rw [List.flatMap_cons, List.length_append, hf b (by simp), flat_len' f l (fun x hx => hf x (by simp [hx])), List.length_cons, Nat.add_mul]
    omega
theorem flat_get' {β : Type} {s : Nat} (f : β → List Value) : ∀ (l : List β) (i : Nat) (b : β) (j : Nat), (∀ b ∈ l, (f b).length = s) → l[i]? = some b → j < s → (l.flatMap f)[i * s + j]? = (f b)[j]?
  | [], i, b, j, _, h, _ => by simp at h
  | a :: l, 0, b, j, hf, h, hj => by
    simp at h
    subst h
    rw [List.flatMap_cons, List.getElem?_append_left (by rw [hf a (by simp)]; omega)]
    simp
  | a :: l, i + 1, b, j, hf, h, hj => by
    have ha := hf a (by simp)
    rw [List.flatMap_cons, List.getElem?_append_right (by rw [ha, Nat.add_mul]; omega), ha, show (i + 1) * s + j - s = i * s + j from by rw [Nat.add_mul]; omega]
    exact flat_get' f l i b j (fun x hx => hf x (by simp [hx])) (by simpa using h) hj
theorem flat_take' {β : Type} {s : Nat} (f : β → List Value) : ∀ (l : List β) (k : Nat), (∀ b ∈ l, (f b).length = s) → (l.flatMap f).take (k * s) = (l.take k).flatMap f
  | [], k, _ => by simp
  | b :: l, 0, _ => by simp
  | b :: l, k + 1, hf => by
    have ha := hf b (by simp)
    rw [List.flatMap_cons, List.take_succ_cons, List.flatMap_cons, Nat.add_mul, Nat.one_mul, List.take_append, List.take_of_length_le (by omega), ha, Nat.add_sub_cancel, flat_take' f l k (fun x hx => hf x (by simp [hx]))]
theorem flat_drop' {β : Type} {s : Nat} (f : β → List Value) : ∀ (l : List β) (k : Nat), (∀ b ∈ l, (f b).length = s) → (l.flatMap f).drop (k * s) = (l.drop k).flatMap f
  | [], k, _ => by simp
  | b :: l, 0, _ => by simp
  | b :: l, k + 1, hf => by
    have ha := hf b (by simp)
    rw [List.flatMap_cons, List.drop_succ_cons, Nat.add_mul, Nat.one_mul, List.drop_append, List.drop_of_length_le (by omega), ha, Nat.add_sub_cancel, List.nil_append, flat_drop' f l k (fun x hx => hf x (by simp [hx]))]
/-- A part of a slice of elements. -/
theorem Sl.tk {w : World} {B s : Nat} {A : Option Addr} {β : Type} {l : List β} {f : β → List Value} (hf : ∀ b ∈ l, (f b).length = s) (h : Sl w B s A l.length (l.flatMap f)) {k : Nat} (hk : k ≤ l.length) : Sl w B s A k ((l.take k).flatMap f) := by
  rw [← flat_take' f l k hf]
  exact h.take hk
theorem Sl.dp {w : World} {B s : Nat} {A : Option Addr} {β : Type} {l : List β} {f : β → List Value} (hf : ∀ b ∈ l, (f b).length = s) (h : Sl w B s A l.length (l.flatMap f)) {k cap : Nat} (hk : k < l.length) (hc : l.length ≤ cap) : ∃ A', (if cap = k then A else A.map (·.add (k * s))) = A' ∧ A' = A.map (·.add (k * s)) ∧ Sl w B s A' (l.length - k) ((l.drop k).flatMap f) := by
  refine ⟨_, rfl, if_neg (by omega), ?_⟩
  rw [← flat_drop' f l k hf]
  exact h.drop (by omega) hc
/-- Element k of a slice. -/
theorem Sl.elt {w : World} {B s : Nat} {A : Option Addr} {β : Type} {l : List β} {f : β → List Value} (hf : ∀ b ∈ l, (f b).length = s) (h : Sl w B s A l.length (l.flatMap f)) {k : Nat} (hk : k < l.length) :
    ∃ b off x, A = some ⟨b, off, none⟩ ∧ b < B ∧ l[k]? = some x ∧ w.rangeAt b (off + k * s) (f x) := by
  obtain ⟨b, off, rfl, hb, hc⟩ := h.2 (by omega)
  have hx : l[k]? = some l[k] := List.getElem?_eq_getElem hk
  refine ⟨b, off, l[k], rfl, hb, hx, fun j v hv => ?_⟩
  have hj : j < s := by
    have := (List.getElem?_eq_some_iff.1 hv).1
    rwa [hf _ (List.getElem_mem hk)] at this
  rw [Nat.add_assoc]
  exact hc _ v (by rw [flat_get' f l k _ j hf hx hj]; exact hv)

/-! Entries. -/
def eC (e : Ent) : List Value := [.string e.1, .string e.2]
theorem eCells_is (l : List Ent) : eCells l = l.flatMap eC := rfl
theorem eC_len {l : List Ent} : ∀ e ∈ l, (eC e).length = 2 := fun _ _ => rfl
theorem eCells_len (l : List Ent) : (eCells l).length = l.length * 2 := flat_len' eC l eC_len
theorem Sl.ent {w : World} {B : Nat} {A : Option Addr} {l : List Ent} (h : Sl w B 2 A l.length (eCells l)) {k : Nat} (hk : k < l.length) :
    ∃ b off ke va, A = some ⟨b, off, none⟩ ∧ b < B ∧ w.cell? ⟨b, off + k * 2, none⟩ = some (.string ke) ∧ w.cell? ⟨b, off + k * 2 + 1, none⟩ = some (.string va) ∧ l[k]? = some (ke, va) := by
  obtain ⟨b, off, x, e, hb, hx, hr⟩ := Sl.elt eC_len h hk
  exact ⟨b, off, x.1, x.2, e, hb, hr 0 _ rfl, hr 1 _ rfl, hx⟩
theorem Sl.etake {w : World} {B : Nat} {A : Option Addr} {l : List Ent} (h : Sl w B 2 A l.length (eCells l)) {k : Nat} (hk : k ≤ l.length) : Sl w B 2 A (l.take k).length (eCells (l.take k)) := by
  have := Sl.tk eC_len h hk
  rwa [show (l.take k).length = k by rw [List.length_take]; omega]
theorem Sl.edrop {w : World} {B : Nat} {A : Option Addr} {l : List Ent} (h : Sl w B 2 A l.length (eCells l)) {k cap : Nat} (hk : k < l.length) (hc : l.length ≤ cap) : Sl w B 2 (A.map (·.add (k * 2))) (l.drop k).length (eCells (l.drop k)) := by
  obtain ⟨A', e, e', hs⟩ := Sl.dp eC_len h hk hc
  rw [e'] at hs
  rwa [show (l.drop k).length = l.length - k by rw [List.length_drop]]

/-! Hashes. -/
def h32 (l : List (List UInt8)) : Prop := ∀ a ∈ l, a.length = 32
def hCells (l : List (List UInt8)) : List Value := l.flatMap bts
theorem h32.cells {l : List (List UInt8)} (h : h32 l) : ∀ a ∈ l, (bts a).length = 32 := fun a ha => by rw [bts_len, h a ha]
theorem h32.take {l : List (List UInt8)} (h : h32 l) (k : Nat) : h32 (l.take k) := fun e he => h e (List.mem_of_mem_take he)
theorem h32.drop {l : List (List UInt8)} (h : h32 l) (k : Nat) : h32 (l.drop k) := fun e he => h e (List.mem_of_mem_drop he)
theorem h32.at_ {l : List (List UInt8)} (h : h32 l) {k : Nat} {a : List UInt8} (ha : l[k]? = some a) : a.length = 32 := h a (List.mem_of_getElem? ha)
theorem hCells_len {l : List (List UInt8)} (h : h32 l) : (hCells l).length = l.length * 32 := flat_len' bts l h.cells
theorem Sl.hsh {w : World} {B : Nat} {A : Option Addr} {l : List (List UInt8)} (h : Sl w B 32 A l.length (hCells l)) (hl : h32 l) {k : Nat} (hk : k < l.length) :
    ∃ b off x, A = some ⟨b, off, none⟩ ∧ b < B ∧ l[k]? = some x ∧ w.rangeAt b (off + k * 32) (bts x) := Sl.elt hl.cells h hk
theorem Sl.htake {w : World} {B : Nat} {A : Option Addr} {l : List (List UInt8)} (h : Sl w B 32 A l.length (hCells l)) (hl : h32 l) {k : Nat} (hk : k ≤ l.length) : Sl w B 32 A (l.take k).length (hCells (l.take k)) := by
  have := Sl.tk hl.cells h hk
  rwa [show (l.take k).length = k by rw [List.length_take]; omega]
theorem Sl.hdrop {w : World} {B : Nat} {A : Option Addr} {l : List (List UInt8)} (h : Sl w B 32 A l.length (hCells l)) (hl : h32 l) {k cap : Nat} (hk : k < l.length) (hc : l.length ≤ cap) : Sl w B 32 (A.map (·.add (k * 32))) (l.drop k).length (hCells (l.drop k)) := by
  obtain ⟨A', e, e', hs⟩ := Sl.dp hl.cells h hk hc
  rw [e'] at hs
  rwa [show (l.drop k).length = l.length - k by rw [List.length_drop]]

/-! Rising keys. -/
theorem ascK_one {l : List Ent} (h : l.length ≤ 1) : ascK l = true := by
  match l, h with
  | [], _ => rfl
  | [_], _ => rfl
theorem ascK_fin {l : List Ent} {k : Nat} (h : l.length ≤ k + 1) : ascK (l.drop k) = true := ascK_one (by rw [List.length_drop]; omega)
theorem ehd2 {l : List Ent} {k : Nat} {a b : Ent} (ha : l[k]? = some a) (hb : l[k + 1]? = some b) : l.drop k = a :: b :: l.drop (k + 1 + 1) := by
  rw [drop_at ha, drop_at hb]
theorem ascK_step {l : List Ent} {k : Nat} {a b : Ent} (ha : l[k]? = some a) (hb : l[k + 1]? = some b) : ascK (l.drop k) = (ltK a.1 b.1 && ascK (l.drop (k + 1))) := by
  rw [ehd2 ha hb, drop_at hb]; rfl
end Go.Proofs.YtdeikpifflkabaaDoor

namespace Go.Proofs.YtdeikpifflkabaaDoor
open Go.RowKit
set_option linter.unusedVariables false
set_option linter.unusedSimpArgs false

/-- A struct's fields, compared: by what is blank, type, offset. -/
def eqBy (d : Nat) (xs ys : Array Value) : List (Bool × TypeId × Nat) → Sem Bool
  | [] => pure true
  | (bl, t, off) :: fs =>
    if bl = false then do
      let a ← part t xs off
      let b ← part t ys off
      let r ← Op.equalIn d t a b
      if (!r) = true then pure false else eqBy d xs ys fs
    else eqBy d xs ys fs
theorem eqFields_by (d : Nat) (xs ys : Array Value) : ∀ fs : List Field, Op.eqFields d xs ys fs = eqBy d xs ys (fs.map fun f => (f.name == "_", f.type, f.offset))
  | [] => rfl
  | f :: fs => by
    rw [Op.eqFields, List.map_cons, eqBy, eqFields_by d xs ys fs]
    by_cases h : f.name = "_"
    · rw [if_neg (by simpa using h), if_neg (by simp [h])]
    · rw [if_pos h, if_pos (by simpa using h)]
section
variable {P : Program} (w : World)
theorem run_part_one {t : TypeId} {xs : Array Value} {off : Nat} {v : Value} (ha : (isAgg t).run P w = .ok false w) (h : xs[off]? = some v) : (part t xs off).run P w = .ok v w := by
  simp [part, Sem.run_bind, ha, h]
theorem eqBy_str {d : Nat} {xs ys : Array Value} {t : TypeId} {off : Nat} {fs : List (Bool × TypeId × Nat)} {a b : ByteArray} (hu : P.underlying t = some .string) (hx : xs[off]? = some (.string a)) (hy : ys[off]? = some (.string b)) :
    (eqBy (d + 1) xs ys ((false, t, off) :: fs)).run P w = if a = b then (eqBy (d + 1) xs ys fs).run P w else .ok false w := by
  have ha : (isAgg t).run P w = .ok false w := by
    unfold isAgg
    rw [Sem.run_bind, run_underlying hu w]
    rfl
  rw [eqBy, if_pos rfl]
  simp only [Sem.run_bind, run_part_one w ha hx, run_part_one w ha hy, Result.andThen_ok, run_equalIn_string w d t a b hu, eqK]
  by_cases e : a = b <;> simp [e]
end
def entFields : List (Bool × TypeId × Nat) := [(false, 9, 0), (false, 9, 1)]
theorem fields_ent : ((Tryd.prog.fieldsOf 31).toList.map fun f => (f.name == "_", f.type, f.offset)) = entFields := by kernel_rfl
theorem ent_same (a b c d : ByteArray) (w : World) : (Op.equalIn 10000 31 (.agg #[.string a, .string b]) (.agg #[.string c, .string d])).run Tryd.prog w = .ok (decide ((a, b) = (c, d))) w := by
  have key : (eqBy 9999 #[.string a, .string b] #[.string c, .string d] entFields).run Tryd.prog w = .ok (decide ((a, b) = (c, d))) w := by
    unfold entFields
    rw [eqBy_str (P := Tryd.prog) (d := 9998) w Tryd.underlying9 rfl rfl, eqBy_str (P := Tryd.prog) (d := 9998) w Tryd.underlying9 rfl rfl]
    by_cases h1 : a = c
    · by_cases h2 : b = d
      · rw [if_pos h1, if_pos h2]; simp [h1, h2]; rfl
      · rw [if_pos h1, if_neg h2]; simp [h1, h2]
    · rw [if_neg h1]; simp [h1]
  rw [run_equalIn_struct w 9999 31 _ _ (by kernel_rfl) (by kernel_rfl), eqFields_by, fields_ent, key]
theorem ent_eql (a b c d : ByteArray) (w : World) : (binOp .eql 31 (.agg #[.string a, .string b]) (.agg #[.string c, .string d])).run Tryd.prog w = .ok (.bool (decide ((a, b) = (c, d)))) w := by
  rw [run_eql_struct, ent_same]
  rfl
theorem ent_neq (a b c d : ByteArray) (w : World) : (binOp .neq 31 (.agg #[.string a, .string b]) (.agg #[.string c, .string d])).run Tryd.prog w = .ok (.bool (!(decide ((a, b) = (c, d))))) w := by
  rw [run_neq_struct, ent_same]
  rfl
end Go.Proofs.YtdeikpifflkabaaDoor
