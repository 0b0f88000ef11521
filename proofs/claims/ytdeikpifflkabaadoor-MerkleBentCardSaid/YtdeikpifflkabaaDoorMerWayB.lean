/- What this text proves: the contract of slices.Reverse at a row of hashes. The conditions: how the row lies in memory. the contract of merkle.way: the hashes beside the way from a leaf to the root. The conditions: no more hashes than are asked about; how they lie in memory; that the package's table is as its text lays it. the contract of merkle.way: the hashes beside the way from a leaf to the root (the walk). The conditions: no more hashes than are asked about; how they lie in memory; that the package's table is as its text lays it. -/
import Derived.Test.YtdeikpifflkabaaDoorEachTail
import Derived.Test.YtdeikpifflkabaaDoorMerLeadsR
import Derived.Test.YtdeikpifflkabaaDoorMerLeads
import Derived.Deep.Onto
namespace Go.Proofs.YtdeikpifflkabaaDoor
open Go.RowKit
set_option linter.unusedVariables false
set_option linter.unusedSimpArgs false

/-- k swaps done. -/
def RevAt {α : Type} (h c : List α) (k : Nat) : Prop := c.length = h.length ∧ ∀ j, j < h.length → c[j]? = if j < k ∨ h.length - 1 - k < j then h[h.length - 1 - j]? else h[j]?
theorem rev_start {α : Type} (h : List α) : RevAt h h 0 := ⟨rfl, fun j hj => by rw [if_neg (by omega)]⟩
theorem rev_end {α : Type} {h c : List α} {k : Nat} (hr : RevAt h c k) (hk : h.length ≤ 2 * k + 1) : c = h.reverse := by
  apply List.ext_getElem?
  intro j
  by_cases hj : j < h.length
  · rw [hr.2 j hj, List.getElem?_reverse hj]
    split
    · rfl
    · congr 1; omega
  · rw [List.getElem?_eq_none (by rw [hr.1]; omega), List.getElem?_eq_none (by rw [List.length_reverse]; omega)]
theorem rev_step {α : Type} {h c : List α} {k : Nat} {x y : α} (hr : RevAt h c k) (hk : 2 * k + 1 < h.length) (hx : c[k]? = some x) (hy : c[h.length - 1 - k]? = some y) : RevAt h ((c.set k y).set (h.length - 1 - k) x) (k + 1) := by
  refine ⟨by rw [List.length_set, List.length_set, hr.1], fun j hj => ?_⟩
  have e1 := hr.2 k (by omega)
  rw [if_neg (by omega), hx] at e1
  have e2 := hr.2 (h.length - 1 - k) (by omega)
  rw [if_neg (by omega), hy] at e2
  by_cases h1 : j = h.length - 1 - k
  · subst h1
    rw [List.getElem?_set_self (by rw [List.length_set, hr.1]; omega), if_pos (.inr (by omega)), show h.length - 1 - (h.length - 1 - k) = k by omega, e1]
  · rw [List.getElem?_set_ne (Ne.symm h1)]
    by_cases h2 : j = k
    · subst h2
      rw [List.getElem?_set_self (by rw [hr.1]; omega), if_pos (.inl (by omega)), e2]
    · rw [List.getElem?_set_ne (Ne.symm h2), hr.2 j hj]
      by_cases h3 : j < k ∨ h.length - 1 - k < j
      · rw [if_pos h3, if_pos (by omega)]
      · rw [if_neg h3, if_neg (by omega)]
theorem rev_mem {α : Type} {h c : List α} {k : Nat} (hr : RevAt h c k) : ∀ a ∈ c, a ∈ h := by
  intro a ha
  obtain ⟨j, hj⟩ := List.mem_iff_getElem?.1 ha
  have hjl : j < h.length := by
    have := (List.getElem?_eq_some_iff.1 hj).1
    rw [hr.1] at this
    exact this
  have := hr.2 j hjl
  rw [hj] at this
  split at this
  · exact List.mem_of_getElem? this.symm
  · exact List.mem_of_getElem? this.symm
/-- Element i of a row of hashes. -/
theorem hRow_at {c : List (List UInt8)} {rest : List Value} {i : Nat} {x : List UInt8} (hc : h32 c) (hx : c[i]? = some x) : ∃ pre post, hCells c ++ rest = pre ++ (bts x ++ post) ∧ pre.length = i * 32 ∧ ∀ y, hCells (c.set i y) ++ rest = pre ++ (bts y ++ post) := by
  have hi : i < c.length := (List.getElem?_eq_some_iff.1 hx).1
  have hd : c = c.take i ++ x :: c.drop (i + 1) := by
    rw [← drop_at hx, List.take_append_drop]
  refine ⟨hCells (c.take i), hCells (c.drop (i + 1)) ++ rest, ?_, ?_, fun y => ?_⟩
  · conv => lhs; rw [hd]
    simp only [hCells, List.flatMap_append, List.flatMap_cons, List.append_assoc]
  · rw [hCells_len (hc.take i), List.length_take, Nat.min_eq_left (by omega)]
  · have hs : c.set i y = c.take i ++ y :: c.drop (i + 1) := by
      rw [List.set_eq_take_append_cons_drop, if_pos hi]
    rw [hs]
    simp only [hCells, List.flatMap_append, List.flatMap_cons, List.append_assoc]
theorem hRow_range {w : World} {b : Nat} {t : TypeId} {c : List (List UInt8)} {rest : List Value} {i : Nat} {x : List UInt8} (h : Bk w b t (hCells c ++ rest).toArray) (hc : h32 c) (hx : c[i]? = some x) : w.rangeAt b (i * 32) (bts x) := by
  obtain ⟨pre, post, e, hp, _⟩ := hRow_at (rest := rest) hc hx
  exact h.seg (i * 32) pre (bts x) post e hp
theorem hRow_put {c : List (List UInt8)} {rest : List Value} {i : Nat} (hc : h32 c) (hi : i < c.length) {y : List UInt8} (hy : y.length = 32) : put (hCells c ++ rest) (i * 32) (bts y) = hCells (c.set i y) ++ rest := by
  have hx : c[i]? = some c[i] := List.getElem?_eq_getElem hi
  obtain ⟨pre, post, e, hp, hs⟩ := hRow_at (rest := rest) hc hx
  rw [e, hs, put_mid pre _ _ post _ hp (by rw [bts_len, bts_len, hy, hc _ (List.mem_of_getElem? hx)])]
theorem h32.set {c : List (List UInt8)} (h : h32 c) (i : Nat) {y : List UInt8} (hy : y.length = 32) : h32 (c.set i y) := fun a ha => by
  rcases List.mem_or_eq_of_mem_set ha with h' | h'
  · exact h a h'
  · rw [h', hy]

theorem reverse_nil (w : World) : Calls Tryd.prog 57 #[.slice none 0 0] w fun e w' => e = .returned (.tuple #[]) ∧ w' = w := by
  go_enter Tryd.func57, Tryd.ntmps57
  go_wp2_with fail
  go_loopw [2, 3] (fun i j wr => i = .int .i64 0 ∧ j = .int .i64 (-1) ∧ wr = w) (fun _ _ _ => 0)
  case atStart => exact ⟨rfl, rfl, rfl⟩
  case round =>
    obtain ⟨rfl, rfl, rfl⟩ := hrel
    go_wp2_with fail
    go_end0
    exact ⟨rfl, rfl⟩

set_option maxRecDepth 100000 in
set_option maxHeartbeats 4000000 in
theorem reverse_any (b : Nat) (t : TypeId) (l : List (List UInt8)) (n c : Nat) (hn : l.length = n) (rest : List Value) (h32l : h32 l) (hl : n ≤ 1000000) (w : World) (hb : Bk w b t (hCells l ++ rest).toArray) :
    Calls Tryd.prog 57 #[.slice (some ⟨b, 0, none⟩) n c] w fun e w' => e = .returned (.tuple #[]) ∧ Bk w' b t (hCells l.reverse ++ rest).toArray ∧ Moves (fun k _ => k = b) w w' := by
  have HB := Lib.hid hb
  have HH := Lib.hid h32l
  have HN := Lib.hid hn
  clear hb h32l hn
  go_enter Tryd.func57, Tryd.ntmps57
  go_wp2_with fail
  go_loopw [2, 3] (fun i j wr => ∃ (k : Nat) (cur : List (List UInt8)), k ≤ n ∧ i = .int .i64 k ∧ j = .int .i64 ((n : Int) - 1 - (k : Int)) ∧ RevAt l cur k ∧ Bk wr b t (hCells cur ++ rest).toArray ∧ Moves (fun q _ => q = b) w wr) (fun i _ _ => n - (intOf i).toNat)
  case atStart => exact ⟨0, l, by omega, rfl, by simp, rev_start l, HB.out, Moves.refl _ _⟩
  case round =>
    obtain ⟨k, cur, hk, rfl, rfl, hrv, hbk, hmv⟩ := hrel
    have RV := Lib.hid hrv
    have BK := Lib.hid hbk
    have MV := Lib.hid hmv
    have H32 : Hid (h32 cur) := Lib.hid (fun a ha => HH.out a (rev_mem RV.out a ha))
    have hcl : Hid (cur.length = n) := Lib.hid (by rw [RV.out.1, HN.out])
    clear hrv hbk hmv
    by_cases hlt : 2 * k + 1 < n
    · have hlt' : (k : Int) < (n : Int) - 1 - (k : Int) := by omega
      obtain ⟨m, hm⟩ : ∃ m, n - 1 - k = m := ⟨_, rfl⟩
      have hmi : (n : Int) - 1 - (k : Int) = (m : Int) := by omega
      have hmn : m < n := by omega
      have hkn : k < n := by omega
      have hkm : k ≠ m := by omega
      rw [hmi] at hlt' ⊢
      obtain ⟨x, hx⟩ : ∃ x, cur[k]? = some x := ⟨_, List.getElem?_eq_getElem (by have := hcl.out; omega)⟩
      obtain ⟨y, hy⟩ : ∃ y, cur[m]? = some y := ⟨_, List.getElem?_eq_getElem (by have := hcl.out; omega)⟩
      have hxl : x.length = 32 := H32.out.at_ hx
      have hyl : y.length = 32 := H32.out.at_ hy
      have hbx : (bts x).length = 32 := by rw [bts_len, hxl]
      have hby : (bts y).length = 32 := by rw [bts_len, hyl]
      have rx := hRow_range BK.out H32.out hx
      have ry := hRow_range BK.out H32.out hy
      have RS : Hid (RevAt l ((cur.set k y).set m x) (k + 1)) := Lib.hid (by
        have hm' : l.length - 1 - k = m := by rw [HN.out]; exact hm
        have := rev_step RV.out (by rw [HN.out]; exact hlt) hx (by rw [hm']; exact hy)
        rwa [hm'] at this)
      have P1 : Hid (put (hCells cur ++ rest) (k * 32) (bts y) = hCells (cur.set k y) ++ rest) := Lib.hid (hRow_put H32.out (by have := hcl.out; omega) hyl)
      have P2 : Hid (put (hCells (cur.set k y) ++ rest) (m * 32) (bts x) = hCells ((cur.set k y).set m x) ++ rest) := Lib.hid (hRow_put (H32.out.set k hyl) (by rw [List.length_set]; have := hcl.out; omega) hxl)
      have RX := Lib.hid rx
      have RY := Lib.hid ry
      have L1 : Hid (k * 32 + 32 ≤ (hCells cur ++ rest).length) := Lib.hid (by rw [List.length_append, hCells_len H32.out, hcl.out]; omega)
      have L2 : Hid (m * 32 + 32 ≤ (hCells (cur.set k y) ++ rest).length) := Lib.hid (by rw [List.length_append, hCells_len (H32.out.set k hyl), List.length_set, hcl.out]; omega)
      clear hx hy rx ry hm RV HH HB H32 hcl
      go_upto_region 3 with fail
      have BKW : Hid (∀ W, Below wr.drew.heap.size wr.drew W → Bk W b t (hCells cur ++ rest).toArray ∧ Moves (fun q _ => q = b) w W ∧ W.rangeAt b (k * 32) (bts x) ∧ W.rangeAt b (m * 32) (bts y)) := Lib.hid (fun W hW =>
        have hbl : b < wr.drew.heap.size := BK.out.drew.lt
        ⟨BK.out.drew.below hW hbl, MV.out.trans_ ((Moves.drew _ _).trans_ (Moves.below _ hW (Nat.le_refl _)) (fun _ _ _ h => h)) (fun _ _ _ h => h), rangeAt_below ((World.rangeAt_drew _ _ _ _).2 RX.out) hW hbl, rangeAt_below ((World.rangeAt_drew _ _ _ _).2 RY.out) hW hbl⟩)
      clear BK MV RX RY
      have hmi' : decide ((0 : Int) ≤ (m : Int)) = true := by simp
      refine wp_region_part [0, 1, 2, 3, 4, 5, 6, 7, 8, 9, 10, 11, 12] [2, 3] [13, 14, 15] (lstV [fun v _ => v = .slice (some ⟨b, 0, none⟩) n c, fun v _ => v = .int .i64 (k : Int), fun v _ => v = .slice (some ⟨b, 0, none⟩) n c, fun v _ => v = .int .i64 (m : Int), fun v _ => v = .slice (some ⟨b, 0, none⟩) n c, fun v _ => v = .int .i64 (m : Int), fun v _ => v = .pointer (some ⟨b, m * 32, none⟩), fun v _ => v = .agg (bts y).toArray, fun v _ => v = .slice (some ⟨b, 0, none⟩) n c, fun v _ => v = .int .i64 (k : Int), fun v _ => v = .pointer (some ⟨b, k * 32, none⟩), fun v _ => v = .agg (bts x).toArray, fun v _ => v = .pointer (some ⟨b, k * 32, none⟩)]) (by kernel_rfl) (by kernel_rfl) (lstV_on (by repeat' (first | exact forall_nil | refine forall_cons ?_ ?_ | exact stays_two _ _ _ | exact stays_eq _ | exact stays_part _ | exact stays_parts _))) ?turns ?hq ?lazy ?fin
      case hq => intro c_ a_ d_ v_ w_ h_; cases d_ <;> exact h_
      case turns =>
        refine ⟨fun o ho a W pre => ?_, fun o ho a W pre => ?_, fun o ho a W pre => ?_, fun o ho a W pre => ?_, fun o ho a W pre => ?_, fun o ho a W pre => ?_, fun o ho a W pre => ?_, fun o ho a W pre => ?_, fun o ho a W pre => ?_, fun o ho a W pre => ?_, fun o ho a W pre => ?_, fun o ho a W pre => ?_, fun o ho a W pre => ?_, trivial⟩
        all_goals (obtain rfl := (Option.some.inj ho).symm; clear ho)
        · (refine .inl ?_; have q0 : a.eval (.tmp 0) = .slice (some ⟨b, 0, none⟩) n c := pre.was 0 (by kernel_rfl) rfl; rw [Act.eval, Array.getD_eq_getD_getElem?] at q0; exact does_val (want_none rfl) (by go_simp) rfl)
        · (refine .inl ?_; have q0 : a.eval (.tmp 2) = .int .i64 (k : Int) := pre.was 2 (by kernel_rfl) rfl; rw [Act.eval, Array.getD_eq_getD_getElem?] at q0; exact does_val (want_none rfl) (by go_simp) rfl)
        · (refine .inl ?_; have q0 : a.eval (.tmp 0) = .slice (some ⟨b, 0, none⟩) n c := pre.was 0 (by kernel_rfl) rfl; rw [Act.eval, Array.getD_eq_getD_getElem?] at q0; exact does_val (want_none rfl) (by go_simp) rfl)
        · (refine .inl ?_; have q0 : a.eval (.tmp 3) = .int .i64 (m : Int) := pre.was 3 (by kernel_rfl) rfl; rw [Act.eval, Array.getD_eq_getD_getElem?] at q0; exact does_val (want_none rfl) (by go_simp) rfl)
        · (refine .inl ?_; have q0 : a.eval (.tmp 0) = .slice (some ⟨b, 0, none⟩) n c := pre.was 0 (by kernel_rfl) rfl; rw [Act.eval, Array.getD_eq_getD_getElem?] at q0; exact does_val (want_none rfl) (by go_simp) rfl)
        · (refine .inl ?_; have q0 : a.eval (.tmp 3) = .int .i64 (m : Int) := pre.was 3 (by kernel_rfl) rfl; rw [Act.eval, Array.getD_eq_getD_getElem?] at q0; exact does_val (want_none rfl) (by go_simp) rfl)
        · (refine .inl ?_; have q0 : a.eval (.tmp 18) = .slice (some ⟨b, 0, none⟩) n c := pre.val 4 18 (by kernel_rfl) (by kernel_rfl); have q1 : a.eval (.tmp 19) = .int .i64 (m : Int) := pre.val 5 19 (by kernel_rfl) (by kernel_rfl); rw [Act.eval, Array.getD_eq_getD_getElem?] at q0 q1; exact does_val (want_none rfl) (by go_simp) rfl)
        · refine .inl ?_
          have q0 : a.eval (.tmp 20) = .pointer (some ⟨b, m * 32, none⟩) := pre.val 6 20 (by kernel_rfl) (by kernel_rfl)
          exact does_val (want_none rfl) (run_ldh _ rfl b (m * 32) q0 y hyl (BKW.out W pre.b).2.2.2) rfl
        · (refine .inl ?_; have q0 : a.eval (.tmp 0) = .slice (some ⟨b, 0, none⟩) n c := pre.was 0 (by kernel_rfl) rfl; rw [Act.eval, Array.getD_eq_getD_getElem?] at q0; exact does_val (want_none rfl) (by go_simp) rfl)
        · (refine .inl ?_; have q0 : a.eval (.tmp 2) = .int .i64 (k : Int) := pre.was 2 (by kernel_rfl) rfl; rw [Act.eval, Array.getD_eq_getD_getElem?] at q0; exact does_val (want_none rfl) (by go_simp) rfl)
        · (refine .inl ?_; have q0 : a.eval (.tmp 22) = .slice (some ⟨b, 0, none⟩) n c := pre.val 8 22 (by kernel_rfl) (by kernel_rfl); have q1 : a.eval (.tmp 23) = .int .i64 (k : Int) := pre.val 9 23 (by kernel_rfl) (by kernel_rfl); rw [Act.eval, Array.getD_eq_getD_getElem?] at q0 q1; exact does_val (want_none rfl) (by go_simp) rfl)
        · refine .inl ?_
          have q0 : a.eval (.tmp 24) = .pointer (some ⟨b, k * 32, none⟩) := pre.val 10 24 (by kernel_rfl) (by kernel_rfl)
          exact does_val (want_none rfl) (run_ldh _ rfl b (k * 32) q0 x hxl (BKW.out W pre.b).2.2.1) rfl
        · (refine .inl ?_; have q0 : a.eval (.tmp 14) = .slice (some ⟨b, 0, none⟩) n c := pre.val 0 14 (by kernel_rfl) (by kernel_rfl); have q1 : a.eval (.tmp 15) = .int .i64 (k : Int) := pre.val 1 15 (by kernel_rfl) (by kernel_rfl); rw [Act.eval, Array.getD_eq_getD_getElem?] at q0 q1; exact does_val (want_none rfl) (by go_simp) rfl)
      case lazy =>
        refine ⟨fun o ho a W pre => ?_, fun o ho a W pre => ?_, trivial⟩
        all_goals (obtain rfl := (Option.some.inj ho).symm; clear ho)
        · have q0 : a.eval (.tmp 0) = .slice (some ⟨b, 0, none⟩) n c := pre.was 0 (by kernel_rfl) rfl
          rw [Act.eval, Array.getD_eq_getD_getElem?] at q0
          exact ⟨_, want_none rfl, fun W' => by go_simp, rfl⟩
        · have q0 : a.eval (.tmp 3) = .int .i64 (m : Int) := pre.was 3 (by kernel_rfl) rfl
          rw [Act.eval, Array.getD_eq_getD_getElem?] at q0
          exact ⟨_, want_none rfl, fun W' => by go_simp, rfl⟩
      case fin =>
        intro a W hbW hsz2 hd hv ho
        obtain ⟨h1, h2, -, -⟩ := BKW.out W hbW
        have W1 := Lib.hid h1
        have W2 := Lib.hid h2
        obtain ⟨T, D⟩ := a
        obtain rfl : D = _ := hd
        have hs8 : T.size = 28 := by rw [hsz2]; rfl
        have q1 : T.getD 2 undef = .int .i64 (k : Int) := ho 2 (no_dst (by kernel_rfl))
        have q2 : T.getD 3 undef = .int .i64 (m : Int) := ho 3 (no_dst (by kernel_rfl))
        have q3 : T.getD 0 undef = .slice (some ⟨b, 0, none⟩) n c := ho 0 (no_dst (by kernel_rfl))
        have q4 : T.getD 16 undef = .slice (some ⟨b, 0, none⟩) n c := hv 2 16 (by decide) (by kernel_rfl)
        have q5 : T.getD 17 undef = .int .i64 (m : Int) := hv 3 17 (by decide) (by kernel_rfl)
        have q6 : T.getD 21 undef = .agg (bts y).toArray := hv 7 21 (by decide) (by kernel_rfl)
        have q7 : T.getD 25 undef = .agg (bts x).toArray := hv 11 25 (by decide) (by kernel_rfl)
        have q8 : T.getD 26 undef = .pointer (some ⟨b, k * 32, none⟩) := hv 12 26 (by decide) (by kernel_rfl)
        have q9 : T.getD 1 undef = _ := ho 1 (no_dst (by kernel_rfl))
        have q10 : T.getD 4 undef = _ := ho 4 (no_dst (by kernel_rfl))
        have q11 : T.getD 5 undef = _ := ho 5 (no_dst (by kernel_rfl))
        have q12 : T.getD 6 undef = _ := ho 6 (no_dst (by kernel_rfl))
        obtain ⟨f, hf⟩ : ∃ f : Nat → Value, ∀ i, T.getD i undef = f i := ⟨_, fun _ => rfl⟩
        have hT := lit_of hs8 f hf
        rw [hf] at q1 q2 q3 q4 q5 q6 q7 q8 q9 q10 q11 q12
        simp only [List.range, List.range.loop, List.map_cons, List.map_nil, q1, q2, q3, q4, q5, q6, q7, q8, q9, q10, q11, q12] at hT
        clear hf q1 q2 q3 q4 q5 q6 q7 q8 q9 q10 q11 q12 hs8 hsz2 hv ho h1 h2 hbW BKW
        subst hT
        simp only [List.filterMap_cons, List.filterMap_nil, List.getElem?_toArray, List.getElem?_cons_succ, List.getElem?_cons_zero]
        show wpList _ _ _ (_ :: _ :: _ :: []) _ _
        go_wp2_with (first
          | (refine wpList_puts (by rfl) 26 _ _ (by with_reducible rfl) b (m * 32) (by rfl) (bts x) (by rfl) t (hCells (cur.set k y) ++ rest) (by exact W3.out) 32 hbx L2.out hi_hash bts_all ?_; intro w8 hb_ hm_ hz_; rw [P2.out] at hb_; have W5 := Lib.hid hb_; have W6 := Lib.hid (W4.out.trans_ hm_ (fun _ _ _ h => h)); clear hb_ hm_ hz_)
          | (refine wpList_puts (by rfl) 26 _ _ (by with_reducible rfl) b (k * 32) (by rfl) (bts y) (by rfl) t (hCells cur ++ rest) (by exact W1.out) 32 hby L1.out hi_hash bts_all ?_; intro w7 hb_ hm_ hz_; rw [P1.out] at hb_; have W3 := Lib.hid hb_; have W4 := Lib.hid (W2.out.trans_ hm_ (fun _ _ _ h => h)); clear hb_ hm_ hz_))
        go_roundw
        case rel => exact ⟨k + 1, _, by omega, by go_num, by go_num, RS.out, W5.out, W6.out⟩
        case measure => simp [intOf]; omega
    · have hlt' : ¬ (k : Int) < (n : Int) - 1 - (k : Int) := by omega
      have hre : cur = l.reverse := rev_end RV.out (by rw [HN.out]; omega)
      go_wp2_with fail
      go_end0
      exact ⟨rfl, by rw [← hre]; exact BK.out, MV.out⟩
end Go.Proofs.YtdeikpifflkabaaDoor

namespace Go.Proofs.YtdeikpifflkabaaDoor
open Go.RowKit Go.Shelf
set_option linter.unusedVariables false
set_option linter.unusedSimpArgs false

/-- The way of the i-th of some hashes. -/
def wayF (l : List (List UInt8)) (i : Nat) : List (List UInt8) :=
  if h : 2 ≤ l.length then
    if i < splitN l.length then wayF (l.take (splitN l.length)) i ++ [rootF (l.drop (splitN l.length))]
    else wayF (l.drop (splitN l.length)) (i - splitN l.length) ++ [rootF (l.take (splitN l.length))]
  else []
termination_by l.length
decreasing_by
  · have := splitN_lt h
    rw [List.length_take]
    omega
  · have := splitN_pos l.length
    rw [List.length_drop]
    omega
theorem wayF_left {l : List (List UInt8)} {i : Nat} (h : 2 ≤ l.length) (hi : i < splitN l.length) : wayF l i = wayF (l.take (splitN l.length)) i ++ [rootF (l.drop (splitN l.length))] := by rw [wayF, dif_pos h, if_pos hi]
theorem wayF_right {l : List (List UInt8)} {i : Nat} (h : 2 ≤ l.length) (hi : ¬ i < splitN l.length) : wayF l i = wayF (l.drop (splitN l.length)) (i - splitN l.length) ++ [rootF (l.take (splitN l.length))] := by rw [wayF, dif_pos h, if_neg hi]
theorem wayF_end {l : List (List UInt8)} {i : Nat} (h : ¬ 2 ≤ l.length) : wayF l i = [] := by rw [wayF, dif_neg h]
theorem wayE_is : ∀ (n : Nat) (l : List Ent) (i : Nat), l.length = n → wayE l i = wayF (l.map leafF) i := by
  intro n
  induction n using Nat.strongRecOn with
  | _ n ih =>
    intro l i hn
    by_cases h2 : 2 ≤ l.length
    · have hm : (l.map leafF).length = l.length := List.length_map ..
      have h1 := splitN_lt h2
      have h3 := splitN_pos l.length
      by_cases hi : i < splitN l.length
      · rw [wayE_left h2 hi, wayF_left (by rw [hm]; exact h2) (by rw [hm]; exact hi), hm, ih _ (by rw [← hn]; exact h1) (l.take (splitN l.length)) i (by rw [List.length_take]; omega), List.map_take, rootE, List.map_drop]
      · rw [wayE_right h2 hi, wayF_right (by rw [hm]; exact h2) (by rw [hm]; exact hi), hm, ih (l.length - splitN l.length) (by omega) (l.drop (splitN l.length)) _ (by rw [List.length_drop]), List.map_drop, rootE, List.map_take]
    · rw [wayE_end h2, wayF_end (by rw [List.length_map]; exact h2)]
/-- A hash, alone in a new row. -/
def OneH (N : Nat) (U : List UInt8) (v : Value) (W : World) : Prop := ∃ g, v = .slice (some ⟨g, 0, none⟩) 1 1 ∧ N ≤ g ∧ Bk W g 26 (bts U).toArray
theorem stays_oneh (N : Nat) (U : List UInt8) : Remains (OneH N U) := fun _ _ _ ⟨g, h1, h2, h3⟩ hb => ⟨g, h1, h2, h3.below hb h3.lt⟩
theorem KeepsOthers.of_below {W W' : World} (h : Below W.heap.size W W') : KeepsOthers W W' := ⟨h.size, fun k o hk _ => (h.block k (Array.getElem?_eq_some_iff.1 hk).1).trans hk⟩
theorem hCells_snoc (l : List (List UInt8)) (x : List UInt8) : hCells (l ++ [x]) = hCells l ++ bts x := by simp [hCells]
theorem h32.snoc {l : List (List UInt8)} (h : h32 l) {x : List UInt8} (hx : x.length = 32) : h32 (l ++ [x]) := fun a ha => by
  rcases List.mem_append.1 ha with h' | h'
  · exact h a h'
  · rw [List.mem_singleton.1 h', hx]

/-- What the loop over the turns holds. -/
structure WI (w : World) (gl go N0 B : Nat) (h : List (List UInt8)) (i : Nat) (pre : List (Bool × Nat)) (W : World) : Prop where
  b : Below gl w W
  st : ∃ (cur outs : List (List UInt8)) (i' : Nat) (A : Option Addr) (c : Nat) (v : Value), turnsL i h.length = pre ++ turnsL i' cur.length ∧ i' < cur.length ∧ cur.length ≤ 70 ∧ wayF h i = wayF cur i' ++ outs.reverse ∧ h32 cur ∧ h32 outs ∧ outs.length = pre.length ∧ cur.length ≤ c ∧ c ≤ maxLen ∧
    Sl W B 32 A cur.length (hCells cur) ∧ Bk W gl 39 #[.slice A cur.length c] ∧ Bk W go 39 #[v] ∧ W.ownsRow N0 26 32 v outs.length (hCells outs)
theorem WI.moves {w W W' : World} {gl go N0 B gi gn B' : Nat} {h : List (List UInt8)} {i : Nat} {pre : List (Bool × Nat)} (hw : WI w gl go N0 B h i pre W) (h0 : gl < go) (h1 : go < gi) (h2 : go < gn) (h3 : gi < N0) (h4 : gn < N0) (h5 : go < B') (hB : B ≤ gl) (hz : gl ≤ w.heap.size) (hm : Moves (fun k o => TX gi gn k o ∨ (B' ≤ k ∧ o.isCells = false)) W W') : WI w gl go N0 B h i pre W' := by
  obtain ⟨hb, cur, outs, i', A, c, v, a1, a2, a3, a4, a5, a6, a7, a8, a9, hs, hgl, hgo, ho⟩ := hw
  refine ⟨hb.trans (hm.to_below (Nat.le_trans hz hb.size) ?_), cur, outs, i', A, c, v, a1, a2, a3, a4, a5, a6, a7, a8, a9, Sl.moves hs hm ?_, hm.bk hgl ?_, hm.bk hgo ?_, hm.own ho ?_⟩
  · rintro k o (⟨h | h, _⟩ | ⟨h, _⟩) <;> omega
  · rintro k o (⟨h | h, _⟩ | ⟨h, _⟩) <;> omega
  · rintro (⟨h | h, _⟩ | ⟨h, _⟩) <;> omega
  · rintro (⟨h | h, _⟩ | ⟨h, _⟩) <;> omega
  · rintro g cs hg (⟨h | h, _⟩ | ⟨_, h⟩)
    · omega
    · omega
    · cases h
theorem WI.step {w W Wf w6 : World} {gl go N0 gi gn : Nat} {outs : List (List UInt8)} {U : List UInt8} {v v' s s' : Value} (h0 : gl < go) (h1 : go < gi) (h2 : go < gn) (h3 : gi < N0) (h4 : gn < N0) (hz : gl ≤ w.heap.size) (hN : N0 ≤ W.heap.size) (hb : Below gl w W) (hf : Below W.heap.size W Wf)
    (hgl : Bk W gl 39 #[s]) (hgo : Bk W go 39 #[v]) (hrow : W.ownsRow N0 26 32 v outs.length (hCells outs))
    (hg : Wf.grownBy w6 v.ownBlock) (ho : w6.ownsRow N0 26 32 v' (outs.length + 1) (hCells outs ++ bts U)) :
    KeepsFrom N0 W ((w6.setCell ⟨go, 0, none⟩ v').setCell ⟨gl, 0, none⟩ s') ∧ TK gi gn W ((w6.setCell ⟨go, 0, none⟩ v').setCell ⟨gl, 0, none⟩ s') ∧ Below gl w ((w6.setCell ⟨go, 0, none⟩ v').setCell ⟨gl, 0, none⟩ s') ∧ Below gl W ((w6.setCell ⟨go, 0, none⟩ v').setCell ⟨gl, 0, none⟩ s') ∧
      Bk ((w6.setCell ⟨go, 0, none⟩ v').setCell ⟨gl, 0, none⟩ s') gl 39 #[s'] ∧ Bk ((w6.setCell ⟨go, 0, none⟩ v').setCell ⟨gl, 0, none⟩ s') go 39 #[v'] ∧
      ((w6.setCell ⟨go, 0, none⟩ v').setCell ⟨gl, 0, none⟩ s').ownsRow N0 26 32 v' (outs ++ [U]).length (hCells (outs ++ [U])) := by
  have hgof := hgo.below hf hgo.lt
  have hglf := hgl.below hf hgl.lt
  have hrowf := own_below hrow hf
  have hgo6 := hgof.grown hg (own_ne hrowf hgof (by decide))
  have hgl6 := hglf.grown hg (own_ne hrowf hglf (by decide))
  have hWf := hf.size
  have b6 : Below gl W w6 := (hf.mono (by omega)).grown hg (by omega) (fun k hk => by have := (own_cells hrowf hk).1; omega)
  have b7 : Below gl W ((w6.setCell ⟨go, 0, none⟩ v').setCell ⟨gl, 0, none⟩ s') := (b6.setCell (by simp; omega) _).setCell (by simp) _
  refine ⟨?_, ?_, hb.trans b7, b7, ?_, ?_, ?_⟩
  · refine ((((KeepsOthers.of_below hf).trans (KeepsOthers.of_grownBy hg ?_)).trans (KeepsOthers.setCell _ _ _)).trans (KeepsOthers.setCell _ _ _)).from _
    intro j o hj ho'
    obtain ⟨_, _, cs, hcs⟩ := own_cells hrowf hj
    rw [hcs] at ho'
    cases ho'
    rfl
  · intro k o hk hko
    have hkl := (Array.getElem?_eq_some_iff.1 hko).1
    have e1 : Wf.heap[k]? = some o := (hf.block k hkl).trans hko
    have hkn : some k ≠ v.ownBlock := fun e => by
      have := (own_cells hrowf e.symm).1
      rcases hk with rfl | rfl <;> omega
    have e2 : w6.heap[k]? = some o := (hg.block k (by omega) hkn).trans e1
    have e3 := (Below.heap_setCell w6 ⟨go, 0, none⟩ v' k (by simp; rcases hk with rfl | rfl <;> omega)).trans e2
    exact (Below.heap_setCell _ ⟨gl, 0, none⟩ s' k (by simp; rcases hk with rfl | rfl <;> omega)).trans e3
  · exact (hgl6.far (p := ⟨go, 0, none⟩) (by simp; omega) v').set_ 0 s'
  · exact (hgo6.set_ 0 v').far (p := ⟨gl, 0, none⟩) (by simp; omega) s'
  · have h7 := own_far ho (p := ⟨go, 0, none⟩) (own_ne ho hgo6 (by decide)) v'
    have hgl7 := hgl6.far (p := ⟨go, 0, none⟩) (by simp; omega) v'
    have h8 := own_far h7 (p := ⟨gl, 0, none⟩) (own_ne h7 hgl7 (by decide)) s'
    rw [hCells_snoc, List.length_append]
    exact h8

theorem own_bk {w : World} {base : Nat} {e : TypeId} {size n : Nat} {v : Value} {xs : List Value} (h : w.ownsRow base e size v n xs) :
    (v = .slice none 0 0 ∧ n = 0) ∨ ∃ g cap rest, v = .slice (some ⟨g, 0, none⟩) n cap ∧ base ≤ g ∧ n ≤ cap ∧ cap ≤ maxLen ∧ (xs ++ rest).length = cap * size ∧ Bk w g e (xs ++ rest).toArray := by
  rcases h.2 with ⟨rfl, rfl⟩ | ⟨g, cap, cur, rfl, hb, hg, h1, h2, h3, h4⟩
  · exact .inl ⟨rfl, rfl⟩
  · refine .inr ⟨g, cap, cur.toList.drop (n * size), rfl, hb, h1, h2, ?_, ?_⟩
    · rw [← h4, List.take_append_drop, ← h3]; simp
    · rw [← h4, List.take_append_drop]
      exact hg
theorem own_of_bk {w : World} {base : Nat} {e : TypeId} {size n g cap : Nat} {xs rest : List Value} (hb : base ≤ g) (h1 : n ≤ cap) (h2 : cap ≤ maxLen) (h3 : (xs ++ rest).length = cap * size) (hx : xs.length = n * size) (h : Bk w g e (xs ++ rest).toArray) : w.ownsRow base e size (.slice (some ⟨g, 0, none⟩) n cap) n xs :=
  ⟨hx, .inr ⟨g, cap, (xs ++ rest).toArray, rfl, hb, h, h1, h2, by rw [← h3]; simp, by rw [← hx]; simp⟩⟩
theorem h32.rev {l : List (List UInt8)} (h : h32 l) : h32 l.reverse := fun a ha => h a (List.mem_reverse.1 ha)
/-- slices.Reverse at an own row of hashes. -/
theorem reverse_own (l : List (List UInt8)) (base : Nat) (v : Value) (h32l : h32 l) (hl : l.length ≤ 1000000) (w : World) (ho : w.ownsRow base 26 32 v l.length (hCells l)) :
    Calls Tryd.prog 57 #[v] w fun e w' => e = .returned (.tuple #[]) ∧ w'.ownsRow base 26 32 v l.length (hCells l.reverse) ∧ Moves (fun k o => base ≤ k ∧ o.isCells = true) w w' := by
  rcases own_bk ho with ⟨rfl, h0⟩ | ⟨g, cap, rest, rfl, hb, h1, h2, h3, hbk⟩
  · obtain rfl : l = [] := List.eq_nil_of_length_eq_zero h0
    refine (reverse_nil w).mono ?_
    rintro e w' ⟨rfl, rfl⟩
    exact ⟨rfl, World.ownsRow_nil _ _ _ _, Moves.refl _ _⟩
  · refine (reverse_any g 26 l l.length cap rfl rest h32l hl w hbk).mono ?_
    rintro e w' ⟨rfl, hb', hm⟩
    refine ⟨rfl, own_of_bk hb h1 h2 ?_ ?_ hb', ⟨hm.os, hm.tape, hm.output, hm.size, fun k o hk hn => hm.block k o hk (fun e => hn ?_)⟩⟩
    · rw [← h3, List.length_append, List.length_append, hCells_len h32l, hCells_len h32l.rev, List.length_reverse]
    · rw [hCells_len h32l.rev, List.length_reverse]
    · subst e
      rw [show w.heap[k]? = _ from hbk] at hk
      cases hk
      exact ⟨hb, rfl⟩
end Go.Proofs.YtdeikpifflkabaaDoor

namespace Go.Proofs.YtdeikpifflkabaaDoor
open Go.RowKit Go.Shelf
set_option linter.unusedVariables false
set_option linter.unusedSimpArgs false

attribute [local go_sem] Oper.semAt_some wide_fn wide_depth
attribute [local irreducible] digF
set_option maxRecDepth 100000 in
set_option maxHeartbeats 8000000 in
theorem way_any (h : List (List UInt8)) (n i : Nat) (hn : h.length = n) (A : Option Addr) (c : Nat) (w : World) (hi : i < n) (h70 : n ≤ 70) (hc : n ≤ c) (hcm : c ≤ maxLen) (hh : h32 h) (hrt : Roots w) (h0 : 0 < w.heap.size) (hA : Sl w w.heap.size 32 A n (hCells h)) :
    Calls Tryd.prog 37 #[.slice A n c, .int .i64 (i : Int)] w fun e w' => ∃ A' c', e = .returned (.slice A' (wayF h i).length c') ∧ w'.ownsRow w.heap.size 26 32 (.slice A' (wayF h i).length c') (wayF h i).length (hCells (wayF h i)) ∧ Below w.heap.size w w' := by
  have hzh := zero_hash
  have h0l : (bts hash0).length = 32 := by rw [bts_len, hash0_len]
  have HA := Lib.hid hA
  have HR := Lib.hid hrt
  have HH := Lib.hid hh
  have HN := Lib.hid hn
  have HCM := Lib.hid hcm
  clear hA hrt hh hn hcm
  refine (callsIn_wide (n := 9)).1 ?_
  refine callsIn_of_wp_marks Tryd.func37 rfl trivial ?_
  simp only [Tryd.ntmps37, List.size_toArray, List.length_cons, List.length_nil, Nat.reduceAdd, Nat.reduceSub, Array.replicate_succ, Array.replicate_zero, List.push_toArray, List.append_toArray, List.nil_append, List.cons_append]
  refine wpIn_wide.2 ?_
  go_upto_region 2 with fail
  have KL := (Bk.new w 39 #[.slice A n c]).alloc (.cells #[.slice none 0 0] 39)
  have KO := Bk.new (w.alloc (.cells #[.slice A n c] 39)) 39 #[.slice none 0 0]
  have L2 : Below w.heap.size w ((w.alloc (.cells #[.slice A n c] 39)).alloc (.cells #[.slice none 0 0] 39)) := (by (first | assumption | (repeat (first | exact Below.refl _ _ | assumption | apply Below.drew | apply below_drewN | (refine Below.setCell ?_ (by (try simp) <;> omega) _) | (refine Below.alloc ?_ (by (try simp) <;> omega) _)))))
  rw [World.size_alloc] at KO
  obtain ⟨w2, hw2⟩ : ∃ W, (w.alloc (.cells #[.slice A n c] 39)).alloc (.cells #[.slice none 0 0] 39) = W := ⟨_, rfl⟩
  obtain ⟨g3, hg3⟩ : ∃ g, w.heap.size = g := ⟨_, rfl⟩
  have z2 : w2.heap.size = g3 + 2 := by rw [← hw2, ← hg3]; simp
  rw [hw2] at KL KO L2 ⊢
  rw [hg3] at KL KO L2 ⊢
  have x0 : w2.cell? ⟨g3, 0, none⟩ = some (.slice A n c) := KL.cell 0
  have HKL := Lib.hid KL
  have HKO := Lib.hid KO
  have HL2 := Lib.hid L2
  have HG3 := Lib.hid hg3
  have HZ2 := Lib.hid z2
  clear hw2 KL KO L2 hg3 z2
  go_wp2_with (go_at_call 54; with_reducible refine (turns_any (i : Int) (n : Int) _).mono ?_; rintro e w5 ⟨rfl, hw5⟩)
  have z5 : w5.heap.size = g3 + 4 := by rw [← hw5, World.size_alloc, World.size_alloc, HZ2.out]
  have hgi : Bk w5 (g3 + 2) 3 #[.int .i64 (i : Int)] := by
    have := (Bk.new w2 3 #[.int .i64 (i : Int)]).alloc (.cells #[.int .i64 (n : Int)] 3)
    rw [hw5, HZ2.out] at this
    exact this
  have hgn : Bk w5 (g3 + 3) 3 #[.int .i64 (n : Int)] := by
    have := Bk.new (w2.alloc (.cells #[.int .i64 (i : Int)] 3)) 3 #[.int .i64 (n : Int)]
    rw [hw5, World.size_alloc, HZ2.out] at this
    exact this
  have hb25 : Below w2.heap.size w2 w5 := by rw [← hw5]; (first | assumption | (repeat (first | exact Below.refl _ _ | assumption | apply Below.drew | apply below_drewN | (refine Below.setCell ?_ (by (try simp) <;> omega) _) | (refine Below.alloc ?_ (by (try simp) <;> omega) _))))
  have KL5 := HKL.out.below hb25 HKL.out.lt
  have KO5 := HKO.out.below hb25 HKO.out.lt
  have L5 := Lib.hid (HL2.out.trans (hb25.mono (by have := HZ2.out; omega)))
  have SA5 : Hid (Sl w5 g3 32 A n (hCells h)) := Lib.hid (by
    have := HA.out
    rw [HG3.out] at this
    exact this.below L5.out)
  have HZ5 := Lib.hid z5
  rw [HZ2.out]
  clear hw5 hb25 HKL HKO x0 z5
  refine (wpIn_wide (n := 9)).1 ?_
  refine range_J (gf := 65) (lb := #[.pointer (some ⟨g3 + 3, 0, none⟩), .pointer (some ⟨g3 + 2, 0, none⟩)]) rfl (enters_of Tryd.func65 (by kernel_rfl) rfl)
    (turns_seq 8 (g3 + 2) (g3 + 3) (by omega) i n (by omega) (by omega) w5 hgi hgn) (fun k o h => h.2)
    TK.trans (fun W l o o' hl ho hc => fun q o1 hq hq1 => (World.putObj_heap_other (by have := HZ5.out; rcases hq with rfl | rfl <;> omega)).trans hq1) (fun _ => rfl)
    (fun pre W => WI w5 g3 (g3 + 1) (g3 + 4) g3 h i pre W) (fun _ _ _ => False)
    (fun pre W W' h hm => h.moves (by omega) (by omega) (by omega) (by omega) (by omega) (by have := HZ5.out; omega) (by omega) (by have := HZ5.out; omega) hm) (fun cd pre W W' h hm => h)
    ⟨Below.refl _ _, h, [], i, A, c, .slice none 0 0, by rw [HN.out]; rfl, by rw [HN.out]; exact hi, by rw [HN.out]; exact h70, by simp, HH.out, (fun a ha => by cases ha), rfl, by rw [HN.out]; exact hc, HCM.out, by rw [HN.out]; exact SA5.out, by rw [HN.out]; exact KL5, KO5, World.ownsRow_nil _ _ _ _⟩ (fun pre W h => trivial) ?round ?done ?stop
  case stop =>
    rintro D cd pre W hD _ h
    exact h.elim
  case round =>
    intro L pre x W hL hi_ hlen
    obtain ⟨xb, xk⟩ := x
    simp only [tEnc]
    gi_wp2
    refine ⟨KeepsFrom.refl _ _, TK.refl _ _ _, hi_, ?_⟩
    clear hi_ hgi hgn KL5 KO5 SA5
    intro W2 hi_ hm hrec
    obtain ⟨hb, cur, outs, i', A2, cc, v, t1, t2, t3, t4, t5, t6, t7, t8, t9, hs, hgl, hgo, hrow⟩ := hi_
    obtain ⟨rr, hrr⟩ := hlen
    rw [← HN.out, t1, List.append_assoc] at hrr
    replace hrr := List.append_cancel_left hrr
    have h2 : 2 ≤ cur.length := by
      refine Nat.le_of_not_lt fun hlt => ?_
      rw [turnsL_end (by omega)] at hrr
      cases hrr
    have OL : Hid (pre.length ≤ 70) := Lib.hid (by
      have h1 := turnsL_deep 12 n i (by omega)
      rw [← HN.out, t1, List.length_append] at h1
      omega)
    obtain ⟨k, hk⟩ : ∃ k, splitN cur.length = k := ⟨_, rfl⟩
    have hk1 := splitN_pos cur.length
    have hkm := splitN_lt h2
    rw [hk] at hk1 hkm
    obtain ⟨m, hmm⟩ : ∃ m, cur.length = m := ⟨_, rfl⟩
    obtain ⟨i0, hii, hz0, hz1, hz2⟩ := info_parts hash_info
    obtain ⟨b, off, rfl, hbb, _⟩ := hs.2 (by omega)
    have hsT := hs.htake t5 (k := k) (by omega)
    have hsD := hs.hdrop (cap := cc) t5 (k := k) (by omega) t8
    rw [show (cur.take k).length = k by rw [List.length_take]; omega] at hsT
    rw [show (cur.drop k).length = m - k by rw [List.length_drop, hmm]] at hsD
    have eD : (some (⟨b, off, none⟩ : Addr)).map (·.add (k * 32)) = some ⟨b, off + k * 32, none⟩ := by
      simp only [Option.map_some, Addr.add]
      split
      · rename_i h0; omega
      · rfl
    rw [eD] at hsD
    have T1 := Lib.hid t1
    have T4 := Lib.hid t4
    have T5 := Lib.hid t5
    have T6 := Lib.hid t6
    have T7 := Lib.hid t7
    have T9 := Lib.hid t9
    rw [hmm] at hgl hkm t2 t3 t8
    have KL2 := Lib.hid hgl
    have KO2 := Lib.hid hgo
    have ROW2 := Lib.hid hrow
    have HB := Lib.hid hb
    have ZW2 : Hid (g3 + 4 ≤ W2.heap.size) := Lib.hid (by have := hb.size; have := HZ5.out; omega)
    have BW2 : Hid (Below g3 w W2) := Lib.hid (L5.out.trans hb)
    clear t1 t4 t5 t6 t7 t9 hgl hgo hrow hb hm hrec hs eD
    by_cases hik : i' < k
    · rw [turnsL_left h2 (by rw [hk]; exact hik), hk, List.singleton_append] at hrr
      injection hrr with hx hrr
      injection hx with hx1 hx2
      subst hx1
      subst hx2
      have HSN : Hid (Sl W2 g3 32 (some ⟨b, off, none⟩) k (hCells (cur.take k))) := Lib.hid hsT
      obtain ⟨U, hU⟩ : ∃ U, rootF (cur.drop k) = U := ⟨_, rfl⟩
      have hUl : U.length = 32 := by rw [← hU]; exact rootF_len (T5.out.drop k)
      have hbU : (bts U).length = 32 := by rw [bts_len, hUl]
      have HROOT := Lib.hid (show ∀ W, Below W2.heap.size W2 W → Calls Tryd.prog 26 #[.slice (some ⟨b, off + k * 32, none⟩) ((m : Int) - (k : Int)).toNat ((cc : Int) - (k : Int)).toNat] W fun e w' => e = .returned (.agg (bts U).toArray) ∧ Below W.heap.size W w' from fun W hbW => by
        rw [show ((m : Int) - (k : Int)).toNat = m - k by omega, show ((cc : Int) - (k : Int)).toNat = cc - k by omega]
        rw [← hU]
        have hW0 := Below.trans BW2.out (hbW.mono (by have := ZW2.out; omega))
        exact root_any (m - k) (cur.drop k) _ (cc - k) W (by rw [List.length_drop]; omega) (by omega) (by omega) (by have := T9.out; unfold maxLen at this ⊢; omega) (T5.out.drop k) (HR.out.below hW0 (by rw [← HG3.out]; exact h0)) (Nat.lt_of_lt_of_le h0 (by rw [HG3.out]; exact Nat.le_trans (by have := ZW2.out; omega) hbW.size)) (by
          have := hsD
          rw [show (cur.drop k).length = (m - k) by rw [List.length_drop]; omega]
          exact (this.below (hbW.mono (by have := ZW2.out; omega))).more (by have := ZW2.out; have := hbW.size; omega)))
      have HWAY : Hid (wayF h i = wayF (cur.take k) i' ++ (outs ++ [U]).reverse) := Lib.hid (by
        rw [T4.out, wayF_left h2 (by rw [hk]; exact hik), hk, hU, List.reverse_append, List.append_assoc]
        rfl)
      have HTURN : Hid (turnsL i h.length = (pre ++ [(true, k)]) ++ turnsL i' (cur.take k).length) := Lib.hid (by
        rw [T1.out, turnsL_left h2 (by rw [hk]; exact hik), hk, show (cur.take k).length = k by rw [List.length_take]; omega, List.append_assoc]
        rfl)
      clear hU hsT hsD hrr
      gi_wp2
      have HW : Hid (∀ W, Below W2.drew.heap.size W2.drew W → W.cell? ⟨g3 + 1, 0, none⟩ = some v ∧ W.cell? ⟨g3, 0, none⟩ = some (.slice (some ⟨b, off, none⟩) m cc) ∧ Below W2.heap.size W2 W ∧ g3 + 4 ≤ W.heap.size) := Lib.hid (fun W hW =>
        have hd : Below W2.heap.size W2 W2.drew := (Below.refl _ _).drew
        have h1 : Below W2.heap.size W2 W := hd.trans (hW.mono hd.size)
        ⟨(KO2.out.below h1 KO2.out.lt).cell 0, (KL2.out.below h1 KL2.out.lt).cell 0, h1, by have := h1.size; have := ZW2.out; omega⟩)
      refine in_region_part (by rfl) (fun hlo => hlo.elim fun a_ hlo => hlo.elim fun w_ hlo => hlo) (by kernel_rfl) ?_
      refine any_part [0, 1, 2, 3, 4, 5] [] [6, 7] (lstV [fun x _ => x = v, fun x _ => x = .slice (some ⟨b, off, none⟩) m cc, fun x _ => x = .int .i64 (k : Int), fun x _ => x = .slice (some ⟨b, off + k * 32, none⟩) ((m : Int) - (k : Int)).toNat ((cc : Int) - (k : Int)).toNat, fun x _ => x = .agg (bts U).toArray, OneH (g3 + 4) U]) (by kernel_rfl) (lstV_on (by repeat' (first | exact forall_nil | refine forall_cons ?_ ?_ | exact stays_oneh _ _ | exact stays_eq _))) ?turns ?hq trivial ?fin
      case hq => intro c_ a_ d_ v_ w_ h_; cases d_ <;> exact h_
      case turns =>
        refine ⟨fun o ho a W pre => ?_, fun o ho a W pre => ?_, fun o ho a W pre => ?_, fun o ho a W pre => ?_, fun o ho a W pre => ?_, fun o ho a W pre => ?_, trivial⟩
        all_goals (obtain rfl := (Option.some.inj ho).symm; clear ho)
        · have c0 := (HW.out W pre.b).1
          (refine .inl ?_; have q0 : a.eval (.tmp 5) = .pointer (some ⟨g3 + 1, 0, none⟩) := pre.was 5 (by kernel_rfl) rfl; rw [Act.eval, Array.getD_eq_getD_getElem?] at q0; exact does_val (want_none rfl) (by go_simp) rfl)
        · have c0 := (HW.out W pre.b).2.1
          (refine .inl ?_; have q0 : a.eval (.tmp 2) = .pointer (some ⟨g3, 0, none⟩) := pre.was 2 (by kernel_rfl) rfl; rw [Act.eval, Array.getD_eq_getD_getElem?] at q0; exact does_val (want_none rfl) (by go_simp) rfl)
        · (refine .inl ?_; have q0 : a.eval (.tmp 7) = .int .i64 (k : Int) := pre.was 7 (by kernel_rfl) rfl; rw [Act.eval, Array.getD_eq_getD_getElem?] at q0; exact does_val (want_none rfl) (by go_simp) rfl)
        · refine .inl ?_
          have q0 : a.eval (.tmp 16) = .slice (some ⟨b, off, none⟩) m cc := pre.val 1 16 (by kernel_rfl) (by kernel_rfl)
          have q1 : a.eval (.tmp 17) = .int .i64 (k : Int) := pre.val 2 17 (by kernel_rfl) (by kernel_rfl)
          rw [Act.eval, Array.getD_eq_getD_getElem?] at q0 q1
          have hkn' : (k : Int) ≤ (m : Int) := by omega
          have hkc : ¬ cc = k := by omega
          have hkc' : k ≤ cc := by omega
          have hk0 : ¬ k = 0 := by omega
          exact does_val (want_none rfl) (by go_simp) rfl
        · refine .inl ?_
          have q0 : a.eval (.tmp 18) = .slice (some ⟨b, off + k * 32, none⟩) ((m : Int) - (k : Int)).toNat ((cc : Int) - (k : Int)).toNat := pre.val 3 18 (by kernel_rfl) (by kernel_rfl)
          rw [Act.eval, Array.getD_eq_getD_getElem?] at q0
          exact does_call (want_none rfl) (by go_simp) (HROOT.out W (HW.out W pre.b).2.2.1) (fun _ => rfl)
        · refine .inl ?_
          have q0 : a.eval (.tmp 19) = .agg (bts U).toArray := pre.val 4 19 (by kernel_rfl) (by kernel_rfl)
          have hb_ : Below W.heap.size W (W.alloc (.cells (bts U).toArray 26)) := (by (first | assumption | (repeat (first | exact Below.refl _ _ | assumption | apply Below.drew | apply below_drewN | (refine Below.setCell ?_ (by (try simp) <;> omega) _) | (refine Below.alloc ?_ (by (try simp) <;> omega) _)))))
          exact does_new (want_none rfl) (run_slice_one 39 26 _ rfl Tryd.underlying39 (bts U) q0 32 hbU (by omega) (by omega) (fun w => Tryd.sizeOf26 w) _ (fun w => zero_hash w)) hb_ ⟨W.heap.size, rfl, (HW.out W pre.b).2.2.2, Bk.new W _ _⟩
      case fin =>
        intro a W hbW hsz2 hd hv ho
        obtain ⟨hc1, hc2, hbw, hzw⟩ := HW.out W hbW
        have BW := Lib.hid hbw
        have ZW := Lib.hid hzw
        have ROW := Lib.hid (own_below ROW2.out hbw)
        have KO := Lib.hid (KO2.out.below hbw KO2.out.lt)
        have KL := Lib.hid (KL2.out.below hbw KL2.out.lt)
        obtain ⟨T, D⟩ := a
        obtain rfl : D = _ := hd
        have hs8 : T.size = 38 := by rw [hsz2]; rfl
        have q1 : T.getD 15 undef = v := hv 0 15 (by decide) (by kernel_rfl)
        obtain ⟨gq, q2, q2n, q2k⟩ : OneH (g3 + 4) U (T.getD 20 undef) W := hv 5 20 (by decide) (by kernel_rfl)
        have q3 : T.getD 2 undef = .pointer (some ⟨g3, 0, none⟩) := ho 2 (no_dst (by kernel_rfl))
        have q4 : T.getD 5 undef = .pointer (some ⟨g3 + 1, 0, none⟩) := ho 5 (no_dst (by kernel_rfl))
        have q5 : T.getD 7 undef = .int .i64 (k : Int) := ho 7 (no_dst (by kernel_rfl))
        have SL : Hid (Sl W W.heap.size 32 (some ⟨gq, 0, none⟩) 1 (bts U)) := Lib.hid ⟨by rw [hbU], fun _ => ⟨gq, 0, rfl, q2k.lt, fun j u hu => by rw [Nat.zero_add, q2k.cell, List.getElem?_toArray]; exact hu⟩⟩
        obtain ⟨f, hf⟩ : ∃ f : Nat → Value, ∀ i, T.getD i undef = f i := ⟨_, fun _ => rfl⟩
        have hT := lit_of hs8 f hf
        rw [hf] at q1 q2 q3 q4 q5
        simp only [List.range, List.range.loop, List.map_cons, List.map_nil, q1, q2, q3, q4, q5] at hT
        clear hf q1 q2 q3 q4 q5 hs8 hsz2 hv ho hbW hbw hzw hc1 hc2 q2k q2n HW HROOT
        subst hT
        simp only [List.filterMap_cons, List.filterMap_nil, List.getElem?_toArray, List.getElem?_cons_succ, List.getElem?_cons_zero]
        show wpList _ _ _ (_ :: _ :: []) _ _
        refine wpList_append_sl _ (by rfl) _ _ 39 (by rfl) (g3 + 4) 26 i0 _ 32 32 Tryd.underlying39 hii hz0 hz1 hz2 h0l (by omega) v outs.length (hCells outs) (by rfl) ROW.out (some ⟨gq, 0, none⟩) 1 1 (bts U) (by rfl) SL.out bts_one (by unfold maxLen; have := T7.out; have := OL.out; omega) (by have := T7.out; have := OL.out; omega) ZW.out ?_
        intro v5 w5_ ho_ hg_ hv_
        obtain ⟨g5, cap5, rfl⟩ := ownsRow_succ ho_
        have O5 := Lib.hid ho_
        have G5 := Lib.hid hg_
        have ko := KO.out.grown hg_ (own_ne ROW.out KO.out (by decide))
        have kl := KL.out.grown hg_ (own_ne ROW.out KL.out (by decide))
        have kl' := kl.far (p := ⟨g3 + 1, 0, none⟩) (by simp) (.slice (some ⟨g5, 0, none⟩) (outs.length + 1) cap5)
        have f1 := ko.frozen 0
        have c1 := ko.cell 0
        have f2 := kl'.frozen 0
        have c2 := kl'.cell 0
        have c3 := kl.cell 0
        have f3 := kl.frozen 0
        clear ho_ hg_ hv_ ko kl kl' SL
        have hkn' : (k : Int) ≤ (m : Int) := by omega
        have hkc : ¬ cc = k := by omega
        have hkc' : k ≤ cc := by omega
        have hk0 : ¬ k = 0 := by omega
        go_wp2_with fail
        gi_wp2
        have hnl : (cur.take k).length = k := by rw [List.length_take]; omega
        obtain ⟨s1, s2, s3, s4, s5, s6, s7⟩ := WI.step (gl := g3) (go := g3 + 1) (N0 := g3 + 4) (gi := g3 + 2) (gn := g3 + 3) (U := U) (s' := .slice (some ⟨b, off, none⟩) k cc) (by omega) (by omega) (by omega) (by omega) (by omega) (by have := HZ5.out; omega) ZW2.out HB.out BW.out KL2.out KO2.out ROW2.out G5.out O5.out
        refine ⟨by rw [HZ5.out]; exact s1, s2, s3, (cur.take k), outs ++ [U], i', (some ⟨b, off, none⟩), cc, _, HTURN.out, by rw [hnl]; omega, by rw [hnl]; omega, HWAY.out, T5.out.take k, T6.out.snoc hUl, by rw [List.length_append, List.length_append, T7.out]; rfl, by rw [hnl]; omega, by have := T9.out; omega, by rw [hnl]; exact HSN.out.below s4, by rw [hnl]; exact s5, s6, s7⟩
    · rw [turnsL_right h2 (by rw [hk]; exact hik), hk, List.singleton_append] at hrr
      injection hrr with hx hrr
      injection hx with hx1 hx2
      subst hx1
      subst hx2
      have HSN : Hid (Sl W2 g3 32 (some ⟨b, off + k * 32, none⟩) (m - k) (hCells (cur.drop k))) := Lib.hid hsD
      obtain ⟨U, hU⟩ : ∃ U, rootF (cur.take k) = U := ⟨_, rfl⟩
      have hUl : U.length = 32 := by rw [← hU]; exact rootF_len (T5.out.take k)
      have hbU : (bts U).length = 32 := by rw [bts_len, hUl]
      have HROOT := Lib.hid (show ∀ W, Below W2.heap.size W2 W → Calls Tryd.prog 26 #[.slice (some ⟨b, off, none⟩) k cc] W fun e w' => e = .returned (.agg (bts U).toArray) ∧ Below W.heap.size W w' from fun W hbW => by
        rw [← hU]
        have hW0 := Below.trans BW2.out (hbW.mono (by have := ZW2.out; omega))
        exact root_any k (cur.take k) _ cc W (by rw [List.length_take]; omega) (by omega) (by omega) (by have := T9.out; unfold maxLen at this ⊢; omega) (T5.out.take k) (HR.out.below hW0 (by rw [← HG3.out]; exact h0)) (Nat.lt_of_lt_of_le h0 (by rw [HG3.out]; exact Nat.le_trans (by have := ZW2.out; omega) hbW.size)) (by
          have := hsT
          rw [show (cur.take k).length = k by rw [List.length_take]; omega]
          exact (this.below (hbW.mono (by have := ZW2.out; omega))).more (by have := ZW2.out; have := hbW.size; omega)))
      have HWAY : Hid (wayF h i = wayF (cur.drop k) (i' - k) ++ (outs ++ [U]).reverse) := Lib.hid (by
        rw [T4.out, wayF_right h2 (by rw [hk]; exact hik), hk, hU, List.reverse_append, List.append_assoc]
        rfl)
      have HTURN : Hid (turnsL i h.length = (pre ++ [(false, k)]) ++ turnsL (i' - k) (cur.drop k).length) := Lib.hid (by
        rw [T1.out, turnsL_right h2 (by rw [hk]; exact hik), hk, show (cur.drop k).length = cur.length - k by rw [List.length_drop], List.append_assoc]
        rfl)
      clear hU hsT hsD hrr
      gi_wp2
      have HW : Hid (∀ W, Below W2.drew.heap.size W2.drew W → W.cell? ⟨g3 + 1, 0, none⟩ = some v ∧ W.cell? ⟨g3, 0, none⟩ = some (.slice (some ⟨b, off, none⟩) m cc) ∧ Below W2.heap.size W2 W ∧ g3 + 4 ≤ W.heap.size) := Lib.hid (fun W hW =>
        have hd : Below W2.heap.size W2 W2.drew := (Below.refl _ _).drew
        have h1 : Below W2.heap.size W2 W := hd.trans (hW.mono hd.size)
        ⟨(KO2.out.below h1 KO2.out.lt).cell 0, (KL2.out.below h1 KL2.out.lt).cell 0, h1, by have := h1.size; have := ZW2.out; omega⟩)
      refine in_region_part (by rfl) (fun hlo => hlo.elim fun a_ hlo => hlo.elim fun w_ hlo => hlo) (by kernel_rfl) ?_
      refine any_part [0, 1, 2, 3, 4, 5] [] [6, 7] (lstV [fun x _ => x = v, fun x _ => x = .slice (some ⟨b, off, none⟩) m cc, fun x _ => x = .int .i64 (k : Int), fun x _ => x = .slice (some ⟨b, off, none⟩) k cc, fun x _ => x = .agg (bts U).toArray, OneH (g3 + 4) U]) (by kernel_rfl) (lstV_on (by repeat' (first | exact forall_nil | refine forall_cons ?_ ?_ | exact stays_oneh _ _ | exact stays_eq _))) ?turns ?hq trivial ?fin
      case hq => intro c_ a_ d_ v_ w_ h_; cases d_ <;> exact h_
      case turns =>
        refine ⟨fun o ho a W pre => ?_, fun o ho a W pre => ?_, fun o ho a W pre => ?_, fun o ho a W pre => ?_, fun o ho a W pre => ?_, fun o ho a W pre => ?_, trivial⟩
        all_goals (obtain rfl := (Option.some.inj ho).symm; clear ho)
        · have c0 := (HW.out W pre.b).1
          (refine .inl ?_; have q0 : a.eval (.tmp 5) = .pointer (some ⟨g3 + 1, 0, none⟩) := pre.was 5 (by kernel_rfl) rfl; rw [Act.eval, Array.getD_eq_getD_getElem?] at q0; exact does_val (want_none rfl) (by go_simp) rfl)
        · have c0 := (HW.out W pre.b).2.1
          (refine .inl ?_; have q0 : a.eval (.tmp 2) = .pointer (some ⟨g3, 0, none⟩) := pre.was 2 (by kernel_rfl) rfl; rw [Act.eval, Array.getD_eq_getD_getElem?] at q0; exact does_val (want_none rfl) (by go_simp) rfl)
        · (refine .inl ?_; have q0 : a.eval (.tmp 7) = .int .i64 (k : Int) := pre.was 7 (by kernel_rfl) rfl; rw [Act.eval, Array.getD_eq_getD_getElem?] at q0; exact does_val (want_none rfl) (by go_simp) rfl)
        · refine .inl ?_
          have q0 : a.eval (.tmp 26) = .slice (some ⟨b, off, none⟩) m cc := pre.val 1 26 (by kernel_rfl) (by kernel_rfl)
          have q1 : a.eval (.tmp 27) = .int .i64 (k : Int) := pre.val 2 27 (by kernel_rfl) (by kernel_rfl)
          rw [Act.eval, Array.getD_eq_getD_getElem?] at q0 q1
          have hkn' : (k : Int) ≤ (m : Int) := by omega
          have hkc : ¬ cc = k := by omega
          have hkc' : k ≤ cc := by omega
          have hk0 : ¬ k = 0 := by omega
          exact does_val (want_none rfl) (by go_simp) rfl
        · refine .inl ?_
          have q0 : a.eval (.tmp 28) = .slice (some ⟨b, off, none⟩) k cc := pre.val 3 28 (by kernel_rfl) (by kernel_rfl)
          rw [Act.eval, Array.getD_eq_getD_getElem?] at q0
          exact does_call (want_none rfl) (by go_simp) (HROOT.out W (HW.out W pre.b).2.2.1) (fun _ => rfl)
        · refine .inl ?_
          have q0 : a.eval (.tmp 29) = .agg (bts U).toArray := pre.val 4 29 (by kernel_rfl) (by kernel_rfl)
          have hb_ : Below W.heap.size W (W.alloc (.cells (bts U).toArray 26)) := (by (first | assumption | (repeat (first | exact Below.refl _ _ | assumption | apply Below.drew | apply below_drewN | (refine Below.setCell ?_ (by (try simp) <;> omega) _) | (refine Below.alloc ?_ (by (try simp) <;> omega) _)))))
          exact does_new (want_none rfl) (run_slice_one 39 26 _ rfl Tryd.underlying39 (bts U) q0 32 hbU (by omega) (by omega) (fun w => Tryd.sizeOf26 w) _ (fun w => zero_hash w)) hb_ ⟨W.heap.size, rfl, (HW.out W pre.b).2.2.2, Bk.new W _ _⟩
      case fin =>
        intro a W hbW hsz2 hd hv ho
        obtain ⟨hc1, hc2, hbw, hzw⟩ := HW.out W hbW
        have BW := Lib.hid hbw
        have ZW := Lib.hid hzw
        have ROW := Lib.hid (own_below ROW2.out hbw)
        have KO := Lib.hid (KO2.out.below hbw KO2.out.lt)
        have KL := Lib.hid (KL2.out.below hbw KL2.out.lt)
        obtain ⟨T, D⟩ := a
        obtain rfl : D = _ := hd
        have hs8 : T.size = 38 := by rw [hsz2]; rfl
        have q1 : T.getD 25 undef = v := hv 0 25 (by decide) (by kernel_rfl)
        obtain ⟨gq, q2, q2n, q2k⟩ : OneH (g3 + 4) U (T.getD 30 undef) W := hv 5 30 (by decide) (by kernel_rfl)
        have q3 : T.getD 2 undef = .pointer (some ⟨g3, 0, none⟩) := ho 2 (no_dst (by kernel_rfl))
        have q4 : T.getD 5 undef = .pointer (some ⟨g3 + 1, 0, none⟩) := ho 5 (no_dst (by kernel_rfl))
        have q5 : T.getD 7 undef = .int .i64 (k : Int) := ho 7 (no_dst (by kernel_rfl))
        have SL : Hid (Sl W W.heap.size 32 (some ⟨gq, 0, none⟩) 1 (bts U)) := Lib.hid ⟨by rw [hbU], fun _ => ⟨gq, 0, rfl, q2k.lt, fun j u hu => by rw [Nat.zero_add, q2k.cell, List.getElem?_toArray]; exact hu⟩⟩
        obtain ⟨f, hf⟩ : ∃ f : Nat → Value, ∀ i, T.getD i undef = f i := ⟨_, fun _ => rfl⟩
        have hT := lit_of hs8 f hf
        rw [hf] at q1 q2 q3 q4 q5
        simp only [List.range, List.range.loop, List.map_cons, List.map_nil, q1, q2, q3, q4, q5] at hT
        clear hf q1 q2 q3 q4 q5 hs8 hsz2 hv ho hbW hbw hzw hc1 hc2 q2k q2n HW HROOT
        subst hT
        simp only [List.filterMap_cons, List.filterMap_nil, List.getElem?_toArray, List.getElem?_cons_succ, List.getElem?_cons_zero]
        show wpList _ _ _ (_ :: _ :: []) _ _
        refine wpList_append_sl _ (by rfl) _ _ 39 (by rfl) (g3 + 4) 26 i0 _ 32 32 Tryd.underlying39 hii hz0 hz1 hz2 h0l (by omega) v outs.length (hCells outs) (by rfl) ROW.out (some ⟨gq, 0, none⟩) 1 1 (bts U) (by rfl) SL.out bts_one (by unfold maxLen; have := T7.out; have := OL.out; omega) (by have := T7.out; have := OL.out; omega) ZW.out ?_
        intro v5 w5_ ho_ hg_ hv_
        obtain ⟨g5, cap5, rfl⟩ := ownsRow_succ ho_
        have O5 := Lib.hid ho_
        have G5 := Lib.hid hg_
        have ko := KO.out.grown hg_ (own_ne ROW.out KO.out (by decide))
        have kl := KL.out.grown hg_ (own_ne ROW.out KL.out (by decide))
        have kl' := kl.far (p := ⟨g3 + 1, 0, none⟩) (by simp) (.slice (some ⟨g5, 0, none⟩) (outs.length + 1) cap5)
        have f1 := ko.frozen 0
        have c1 := ko.cell 0
        have f2 := kl'.frozen 0
        have c2 := kl'.cell 0
        have c3 := kl.cell 0
        have f3 := kl.frozen 0
        clear ho_ hg_ hv_ ko kl kl' SL
        have hkn' : (k : Int) ≤ (m : Int) := by omega
        have hkc : ¬ cc = k := by omega
        have hkc' : k ≤ cc := by omega
        have hk0 : ¬ k = 0 := by omega
        go_wp2_with fail
        gi_wp2
        have hnl : (cur.drop k).length = (m - k) := by rw [List.length_drop, hmm]
        obtain ⟨s1, s2, s3, s4, s5, s6, s7⟩ := WI.step (gl := g3) (go := g3 + 1) (N0 := g3 + 4) (gi := g3 + 2) (gn := g3 + 3) (U := U) (s' := .slice (some ⟨b, off + k * 32, none⟩) (m - k) (cc - k)) (by omega) (by omega) (by omega) (by omega) (by omega) (by have := HZ5.out; omega) ZW2.out HB.out BW.out KL2.out KO2.out ROW2.out G5.out O5.out
        refine ⟨by rw [HZ5.out]; exact s1, s2, s3, (cur.drop k), outs ++ [U], (i' - k), (some ⟨b, off + k * 32, none⟩), (cc - k), _, HTURN.out, by rw [hnl]; omega, by rw [hnl]; omega, HWAY.out, T5.out.drop k, T6.out.snoc hUl, by rw [List.length_append, List.length_append, T7.out]; rfl, by rw [hnl]; omega, by have := T9.out; omega, by rw [hnl]; exact HSN.out.below s4, by rw [hnl]; exact s5, s6, s7⟩
  case done =>
    rintro D xs W hD rfl hi_ hK
    obtain ⟨hb, cur, outs, i', A2, cc, v, t1, t2, t3, t4, t5, t6, t7, t8, t9, hs, hgl, hgo, hrow⟩ := hi_
    rw [HN.out] at t1
    have t1' : turnsL i' cur.length = [] := by
      have := congrArg List.length t1
      rw [List.length_append] at this
      exact List.eq_nil_of_length_eq_zero (by omega)
    have h2 : ¬ 2 ≤ cur.length := fun h2 => by
      by_cases hik : i' < splitN cur.length
      · rw [turnsL_left h2 hik] at t1'; cases t1'
      · rw [turnsL_right h2 hik] at t1'; cases t1'
    rw [wayF_end h2, List.nil_append] at t4
    have hol : outs.length ≤ 70 := by
      have h1 := turnsL_deep 12 n i (by omega)
      omega
    have HV := Lib.hid (reverse_own outs (g3 + 4) v t6 (by omega) W hrow)
    have T4 := Lib.hid t4
    have KO := Lib.hid hgo
    have LW := Lib.hid (L5.out.trans hb)
    have HKD := Lib.hid hK
    have HD := Lib.hid hD
    have x5 : W.cell? ⟨g3 + 1, 0, none⟩ = some v := hgo.cell 0
    clear t1 t1' t2 t3 t4 t5 t6 t7 t8 t9 hs hgl hgo hrow hb hK h2 hgi hgn KL5 KO5
    go_wp2_with fail
    with_reducible refine HV.out.mono ?_
    rintro en w6 ⟨rfl, ho6, hm6⟩
    have O6 := Lib.hid ho6
    have KO6 := hm6.bk KO.out (by omega)
    have x6 : w6.cell? ⟨g3 + 1, 0, none⟩ = some v := KO6.cell 0
    have L6 : Hid (Below g3 w w6) := Lib.hid (LW.out.trans (hm6.to_below (by have := LW.out.size; have := HG3.out; omega) (fun k o h => by omega)))
    have HK6 : Hid (w6.heap[D]? = some (.deferred (some []))) := Lib.hid (hm6.block D _ HKD.out (fun h => by cases h.2))
    clear ho6 hm6 HV x5 KO KO6 HKD
    go_wp2_with fail
    refine ⟨by simp, .inl ⟨_, _, rfl, run_takeDeferred HK6.out, ?_⟩⟩
    have ho7 := ownsRow_putObj O6.out (.deferred none) HK6.out rfl
    obtain ⟨A', c', rfl, hn', hc', hs'⟩ := own_sl ho7
    have hl : (wayF h i).length = outs.length := by rw [T4.out, List.length_reverse]
    refine ⟨_, results_tmp rfl _ _ _, A', c', by rw [hl]; rfl, ?_, ?_⟩
    · rw [hl, T4.out, HG3.out]
      exact ho7.mono (by omega)
    · rw [HG3.out]
      exact L6.out.trans ((Moves.putObj (X := fun k _ => g3 ≤ k) w6 D _ (fun o _ => by have := HD.out; have := HZ5.out; omega)).to_below (by have := L6.out.size; have := HG3.out; omega) (fun k _ h => h))
end Go.Proofs.YtdeikpifflkabaaDoor
