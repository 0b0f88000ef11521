/- What this text proves: the hash of a right set, the engine's and the reference's (contracts of forms.SetHash, valset.Hash, nuncioref06.SetHash, nuncioref07.Hash). The conditions are how the set lies in memory, and that the package's table is as its text lays it. -/
import Derived.Test.YthbkcjjpdhdidaaDoorSetDo
import Derived.Test.YthbkcjjpdhdidaaDoorSetRef
import Derived.Test.YthbkcjjpdhdidaaDoorRefBlakeJ
namespace Go.Proofs.YthbkcjjpdhdidaaDoor
open Go.RowKit Go.Shelf
set_option linter.unusedVariables false
set_option linter.unusedSimpArgs false

theorem results_cell2 {P : Program} {fn : Func} {p q : Tmp} {ty : TypeId} (h : fn.results = #[.cell p ty, .tmp q]) (tmps : Array Value) (w : World) (g : Nat) (t : TypeId) (cs : Array Value) (fr : Nat × Nat) (d : TypeDesc) (x : Value)
    (hp : tmps.getD p undef = .pointer (some ⟨g, 0, none⟩)) (hq : tmps.getD q undef = x) (hg : w.heap[g]? = some (.cells cs t fr))
    (hu : P.underlying ty = some d) (hd : (match d with | .struct _ | .array _ _ => true | _ => false) = true) (hi : (P.info? ty).map (·.size) = some cs.size) :
    (results fn tmps).run P w = .ok (.tuple #[.agg cs, x]) w := by
  have hp' : tmps[p]?.getD undef = .pointer (some ⟨g, 0, none⟩) := by simpa using hp
  have hq' : tmps[q]?.getD undef = x := by simpa using hq
  simp [results, h, hp', hq', asAddr, run_loadVar_row w g t ty cs fr d hg hu hd hi]
theorem built_one {w : World} {v : Value} : Sl (w.alloc (.cells #[v] 42)) (w.alloc (.cells #[v] 42)).heap.size 1 (some ⟨w.heap.size, 0, none⟩) 1 [v] :=
  ⟨by simp, fun _ => ⟨w.heap.size, 0, rfl, by simp, fun j u hu => by rw [Nat.zero_add, (Bk.new w 42 #[v]).cell, List.getElem?_toArray]; exact hu⟩⟩
/-- A set's hash. -/
def setH (l : List (Int × Int)) : List UInt8 := digF (3 :: setB l)
theorem joinF_one (t : UInt8) (A : Option Addr) (c : Nat) (b : List UInt8) : joinF t [(A, c, b)] = digF (t :: b) := by simp [joinF, catF]
theorem setH_len (l : List (Int × Int)) : (setH l).length = 32 := digF_len _

attribute [local irreducible] digF
set_option maxRecDepth 100000 in
set_option maxHeartbeats 4000000 in
theorem hashed_any (v : Value) (b : List UInt8) (w : World) (hr : Roots w) (h0 : 0 < w.heap.size) (hv : Own8 w 0 v b) :
    Calls Tryd.prog 18 #[.int .u8 3, v, .int .i64 0] w fun e w' => e = .returned (.tuple #[.agg (bts (digF (3 :: b))).toArray, .int .i64 0]) ∧ Below w.heap.size w w' := by
  have hzh := zero_hash
  have h0l : (bts hash0).length = 32 := by rw [bts_len, hash0_len]
  have HR := Lib.hid hr
  obtain ⟨A, c, rfl, hc1, hc2, hs⟩ := own_sl hv
  have HS := Lib.hid hs
  clear hr hs hv
  go_enter Tryd.func18, Tryd.ntmps18
  go_upto_region 1 with fail
  have O1 := Lib.hid (Bk.new w 29 (bts hash0).toArray)
  have L1 : Hid (Below w.heap.size w (w.alloc (.cells (bts hash0).toArray 29))) := Lib.hid (by (first | assumption | (repeat (first | exact Below.refl _ _ | assumption | apply Below.drew | apply below_drewN | (refine Below.setCell ?_ (by (try simp) <;> omega) _) | (refine Below.alloc ?_ (by (try simp) <;> omega) _)))))
  have z1 : (w.alloc (.cells (bts hash0).toArray 29)).heap.size = w.heap.size + 1 := by simp
  obtain ⟨go, hgo⟩ : ∃ x, w.heap.size = x := ⟨_, rfl⟩
  obtain ⟨w1, hw1⟩ : ∃ x, w.alloc (.cells (bts hash0).toArray 29) = x := ⟨_, rfl⟩
  rw [hw1] at O1 L1 z1 ⊢
  rw [hgo] at O1 ⊢
  have HGO := Lib.hid hgo
  clear hw1
  have HZ1 := Lib.hid z1
  clear z1 hgo
  go_wp2_with fail
  have L2 : Below w1.heap.size w1 (w1.alloc (.cells #[.slice A b.length c] 42)) := (by (first | assumption | (repeat (first | exact Below.refl _ _ | assumption | apply Below.drew | apply below_drewN | (refine Below.setCell ?_ (by (try simp) <;> omega) _) | (refine Below.alloc ?_ (by (try simp) <;> omega) _)))))
  have L12 : Below w.heap.size w (w1.alloc (.cells #[.slice A b.length c] 42)) := L1.out.trans (L2.mono L1.out.size)
  have hj : Calls Tryd.prog 24 #[.int .u8 3, .slice (some ⟨w1.heap.size, 0, none⟩) 1 1] (w1.alloc (.cells #[.slice A b.length c] 42)) _ :=
    join_any 3 (some ⟨w1.heap.size, 0, none⟩) [(A, c, b)] 1 _ (HR.out.below L12 h0) (Nat.lt_of_lt_of_le h0 L12.size) (by unfold maxLen; simp) built_one (fun p hp => by
      rw [List.mem_singleton] at hp
      subst hp
      exact ⟨hc1, hc2, (HS.out.below L12).more L12.size⟩)
  rw [joinF_one] at hj
  have O2 := Lib.hid (O1.out.alloc (.cells #[.slice A b.length c] 42))
  have HJ := Lib.hid hj
  have HL2 := Lib.hid L12
  clear hj L2 L12 L1 O1
  with_reducible refine HJ.out.mono ?_
  rintro e w3 ⟨rfl, hb3⟩
  have O3 := Lib.hid (O2.out.below hb3 O2.out.lt)
  have L3 := Lib.hid (HL2.out.trans (hb3.mono HL2.out.size))
  clear hb3 O2 HL2 HJ
  obtain ⟨J, hJ⟩ : ∃ J, digF (3 :: b) = J := ⟨_, rfl⟩
  have hJl : J.length = 32 := by rw [← hJ, digF_len]
  have hbl : (bts J).length = 32 := by rw [bts_len, hJl]
  rw [hJ]
  have HJJ := Lib.hid hJ
  clear hJ
  go_wp2_with (refine wpList_puts (by rfl) 29 _ _ (by with_reducible rfl) go 0 (by rfl) (bts J) (by rfl) 29 (bts hash0) (by exact O3.out) 32 hbl (by rw [h0l]; omega) hi_hash bts_all ?_; intro w9 hb_ hm_ hz_; rw [put_hash0 _ hJl] at hb_; have HM9 := Lib.hid hm_; have HR9 := Lib.hid hb_; clear hb_ hm_ hz_)
  refine bodyPost_ret (results_cell2 rfl _ _ go 29 (bts J).toArray (0, 0) _ (.int .i64 0) (by rfl) (by rfl) HR9.out Tryd.underlying29 rfl (by rw [hi_hash]; simp [hbl])) rfl ?_
  refine ⟨by rw [HJJ.out], L3.out.trans (HM9.out.to_below L3.out.size (fun k o e => ?_))⟩
  rw [e, ← HGO.out]
  exact Nat.le_refl _

attribute [local irreducible] setH
set_option maxRecDepth 100000 in
set_option maxHeartbeats 4000000 in
theorem fsethash_any (A : Option Addr) (l : List (Int × Int)) (c : Nat) (w : World) (hr : Roots w) (h0 : 0 < w.heap.size) (hl : l.length ≤ 64) (hk : keysOk l) (hA : Sl w w.heap.size 2 A l.length (vCells l)) :
    Calls Tryd.prog 15 #[.slice A l.length c] w fun e w' => e = .returned (.tuple #[.agg (bts (setH l)).toArray, .int .i64 0]) ∧ Below w.heap.size w w' := by
  have hzh := zero_hash
  have h0l : (bts hash0).length = 32 := by rw [bts_len, hash0_len]
  have HH := Lib.hid (fun (v : Value) (W : World) (hb : Below w.heap.size w W) (hv : Own8 W 0 v (setB l)) => hashed_any v (setB l) W (hr.below hb h0) (Nat.lt_of_lt_of_le h0 hb.size) hv)
  rw [show digF (3 :: setB l) = setH l by with_unfolding_all rfl] at HH
  have HE := Lib.hid (fun (W : World) (hb : Below w.heap.size w W) => encset_any A l c W hl hk ((hA.below hb).more hb.size))
  clear hr hA hk
  go_enter Tryd.func15, Tryd.ntmps15
  go_upto_region 1 with fail
  have O1 := Lib.hid (Bk.new w 29 (bts hash0).toArray)
  have L1 : Hid (Below w.heap.size w (w.alloc (.cells (bts hash0).toArray 29))) := Lib.hid (by (first | assumption | (repeat (first | exact Below.refl _ _ | assumption | apply Below.drew | apply below_drewN | (refine Below.setCell ?_ (by (try simp) <;> omega) _) | (refine Below.alloc ?_ (by (try simp) <;> omega) _)))))
  obtain ⟨go, hgo⟩ : ∃ x, w.heap.size = x := ⟨_, rfl⟩
  obtain ⟨w1, hw1⟩ : ∃ x, w.alloc (.cells (bts hash0).toArray 29) = x := ⟨_, rfl⟩
  rw [hw1] at O1 L1 ⊢
  rw [hgo] at O1 ⊢
  have HGO := Lib.hid hgo
  clear hw1 hgo
  obtain ⟨J, hJ⟩ : ∃ J, setH l = J := ⟨_, rfl⟩
  have hJl : J.length = 32 := by rw [← hJ, setH_len]
  have hbl : (bts J).length = 32 := by rw [bts_len, hJl]
  rw [hJ] at HH
  have HJJ := Lib.hid hJ
  clear hJ
  go_wp2_with fail
  with_reducible refine (HE.out w1 L1.out).mono ?_
  rintro e w2 ⟨v, rfl, ho, hb⟩
  have L2 := Lib.hid (L1.out.trans (hb.mono L1.out.size))
  have O2 := Lib.hid (O1.out.below hb O1.out.lt)
  have HV := Lib.hid (own8_low ho (Nat.zero_le _))
  clear ho hb L1 O1 HE
  go_wp2_with fail
  have hh := HH.out v w2 L2.out HV.out
  with_reducible refine hh.mono ?_
  rintro e w3 ⟨rfl, hb3⟩
  have O3 := Lib.hid (O2.out.below hb3 O2.out.lt)
  have L3 := Lib.hid (L2.out.trans (hb3.mono L2.out.size))
  clear hb3 O2 L2 HV hh HH
  go_wp2_with (refine wpList_puts (by rfl) 29 _ _ (by with_reducible rfl) go 0 (by rfl) (bts J) (by rfl) 29 (bts hash0) (by exact O3.out) 32 hbl (by rw [h0l]; omega) hi_hash bts_all ?_; intro w9 hb_ hm_ hz_; rw [put_hash0 _ hJl] at hb_; have HM9 := Lib.hid hm_; have HR9 := Lib.hid hb_; clear hb_ hm_ hz_)
  refine bodyPost_ret (results_cell2 rfl _ _ go 29 (bts J).toArray (0, 0) _ (.int .i64 0) (by rfl) (by rfl) HR9.out Tryd.underlying29 rfl (by rw [hi_hash]; simp [hbl])) rfl ?_
  refine ⟨by rw [HJJ.out], L3.out.trans (HM9.out.to_below L3.out.size (fun k o e => ?_))⟩
  rw [e, ← HGO.out]
  exact Nat.le_refl _

/-- What a set's Hash says. -/
def hashV (l : List (Int × Int)) : List UInt8 × Int := if rightV l then (setH l, 0) else (hash0, 71)
theorem right_le {l : List (Int × Int)} (h : rightV l = true) : l.length ≤ 64 := by
  unfold rightV at h
  simp at h
  exact h.2
set_option maxRecDepth 100000 in
set_option maxHeartbeats 4000000 in
theorem vhash_any (A : Option Addr) (l : List (Int × Int)) (c : Nat) (w : World) (hr : Roots w) (h0 : 0 < w.heap.size) (hl : l.length ≤ maxLen) (hk : keysOk l) (hA : Sl w w.heap.size 2 A l.length (vCells l)) :
    Calls Tryd.prog 7 #[.slice A l.length c] w fun e w' => e = .returned (.tuple #[.agg (bts (hashV l).1).toArray, .int .i64 (hashV l).2]) ∧ Below w.heap.size w w' := by
  have hzh := zero_hash
  have h0l : (bts hash0).length = 32 := by rw [bts_len, hash0_len]
  have HI := Lib.hid (fun (W : World) (hb : Below w.heap.size w W) => right_any A l c W hl ((hA.below hb).more hb.size))
  have HS := Lib.hid (fun (h : rightV l = true) (W : World) (hb : Below w.heap.size w W) => fsethash_any A l c W (hr.below hb h0) (Nat.lt_of_lt_of_le h0 hb.size) (right_le h) hk ((hA.below hb).more hb.size))
  clear hr hA hk
  go_enter Tryd.func7, Tryd.ntmps7
  go_upto_region 1 with fail
  have O1 := Lib.hid (Bk.new w 29 (bts hash0).toArray)
  have L1 : Hid (Below w.heap.size w (w.alloc (.cells (bts hash0).toArray 29))) := Lib.hid (by (first | assumption | (repeat (first | exact Below.refl _ _ | assumption | apply Below.drew | apply below_drewN | (refine Below.setCell ?_ (by (try simp) <;> omega) _) | (refine Below.alloc ?_ (by (try simp) <;> omega) _)))))
  obtain ⟨go, hgo⟩ : ∃ x, w.heap.size = x := ⟨_, rfl⟩
  obtain ⟨w1, hw1⟩ : ∃ x, w.alloc (.cells (bts hash0).toArray 29) = x := ⟨_, rfl⟩
  rw [hw1] at O1 L1 ⊢
  rw [hgo] at O1 ⊢
  have HGO := Lib.hid hgo
  clear hw1 hgo
  go_wp2_with fail
  with_reducible refine (HI.out w1 L1.out).mono ?_
  rintro e w2 ⟨rfl, hb2⟩
  have L2 := Lib.hid (L1.out.trans (hb2.mono L1.out.size))
  have O2 := Lib.hid (O1.out.below hb2 O1.out.lt)
  clear hb2 L1 O1 HI
  cases hrt : rightV l with
  | true =>
    obtain ⟨J, hJ⟩ : ∃ J, setH l = J := ⟨_, rfl⟩
    have hJl : J.length = 32 := by rw [← hJ, setH_len]
    have hbl : (bts J).length = 32 := by rw [bts_len, hJl]
    have HS2 := Lib.hid (HS.out hrt w2 L2.out)
    rw [hJ] at HS2
    have HJJ : Hid (hashV l = (J, 0)) := Lib.hid (by unfold hashV; rw [hrt, hJ]; rfl)
    clear hJ hrt HS
    go_wp2_with fail
    with_reducible refine HS2.out.mono ?_
    rintro e w3 ⟨rfl, hb3⟩
    have O3 := Lib.hid (O2.out.below hb3 O2.out.lt)
    have L3 := Lib.hid (L2.out.trans (hb3.mono L2.out.size))
    clear hb3 O2 L2 HS2
    go_wp2_with (refine wpList_puts (by rfl) 29 _ _ (by with_reducible rfl) go 0 (by rfl) (bts J) (by rfl) 29 (bts hash0) (by exact O3.out) 32 hbl (by rw [h0l]; omega) hi_hash bts_all ?_; intro w9 hb_ hm_ hz_; rw [put_hash0 _ hJl] at hb_; have HM9 := Lib.hid hm_; have HR9 := Lib.hid hb_; clear hb_ hm_ hz_)
    refine bodyPost_ret (results_cell2 rfl _ _ go 29 (bts J).toArray (0, 0) _ (.int .i64 0) (by rfl) (by rfl) HR9.out Tryd.underlying29 rfl (by rw [hi_hash]; simp [hbl])) rfl ?_
    refine ⟨by rw [HJJ.out], L3.out.trans (HM9.out.to_below L3.out.size (fun k o e => ?_))⟩
    rw [e, ← HGO.out]
    exact Nat.le_refl _
  | false =>
    have HJJ : Hid (hashV l = (hash0, 71)) := Lib.hid (by unfold hashV; rw [hrt]; rfl)
    have hb0 : Tryd.prog.built 29 [] = some (bts hash0).toArray := by kernel_rfl
    have O3 := O2
    have L3 := L2
    clear hrt HS O2 L2
    go_wp2_with (first
      | (refine wpList_val (by rfl) (run_build_at 29 _ (by with_reducible rfl) (bts hash0) (by exact hb0)) ?_)
      | (refine wpList_puts (by rfl) 29 _ _ (by with_reducible rfl) go 0 (by rfl) (bts hash0) (by rfl) 29 (bts hash0) (by exact O3.out) 32 h0l (by rw [h0l]; omega) hi_hash bts_all ?_; intro w9 hb_ hm_ hz_; rw [put_all rfl] at hb_; have HM9 := Lib.hid hm_; have HR9 := Lib.hid hb_; clear hb_ hm_ hz_))
    refine bodyPost_ret (results_cell2 rfl _ _ go 29 (bts hash0).toArray (0, 0) _ (.int .i64 71) (by rfl) (by rfl) HR9.out Tryd.underlying29 rfl (by rw [hi_hash]; simp [h0l])) rfl ?_
    refine ⟨by rw [HJJ.out], L3.out.trans (HM9.out.to_below L3.out.size (fun k o e => ?_))⟩
    rw [e, ← HGO.out]
    exact Nat.le_refl _

set_option maxRecDepth 100000 in
set_option maxHeartbeats 4000000 in
theorem rsethash_any (A : Option Addr) (l : List (Int × Int)) (c : Nat) (w : World) (hl : l.length ≤ 64) (hk : keysOk l) (hA : Sl w w.heap.size 2 A l.length (vCells l)) :
    Calls Tryd.prog 16 #[.slice A l.length c] w fun e w' => e = .returned (.tuple #[.agg (bts (setH l)).toArray, .bool true]) ∧ Below w.heap.size w w' := by
  have hzh := zero_hash
  have h0l : (bts hash0).length = 32 := by rw [bts_len, hash0_len]
  have HE := Lib.hid (fun (W : World) (hb : Below w.heap.size w W) => rset_any A l c W hl hk ((hA.below hb).more hb.size))
  have HLL := Lib.hid (setB_len l)
  have HST : Hid (setH l = digF (3 :: setB l)) := Lib.hid (by with_unfolding_all rfl)
  clear hA hk
  go_enter Tryd.func16, Tryd.ntmps16
  go_upto_region 1 with fail
  have O1 := Lib.hid (Bk.new w 29 (bts hash0).toArray)
  have L1 : Hid (Below w.heap.size w (w.alloc (.cells (bts hash0).toArray 29))) := Lib.hid (by (first | assumption | (repeat (first | exact Below.refl _ _ | assumption | apply Below.drew | apply below_drewN | (refine Below.setCell ?_ (by (try simp) <;> omega) _) | (refine Below.alloc ?_ (by (try simp) <;> omega) _)))))
  obtain ⟨go, hgo⟩ : ∃ x, w.heap.size = x := ⟨_, rfl⟩
  obtain ⟨w1, hw1⟩ : ∃ x, w.alloc (.cells (bts hash0).toArray 29) = x := ⟨_, rfl⟩
  rw [hw1] at O1 L1 ⊢
  rw [hgo] at O1 ⊢
  have HGO := Lib.hid hgo
  clear hw1 hgo
  go_wp2_with fail
  with_reducible refine (HE.out w1 L1.out).mono ?_
  rintro e w2 ⟨v, rfl, ho, hb⟩
  have L2 := Lib.hid (L1.out.trans (hb.mono L1.out.size))
  have O2 := Lib.hid (O1.out.below hb O1.out.lt)
  obtain ⟨A2, c2, rfl, hc1, hc2, hs⟩ := own_sl ho
  have HV := Lib.hid hs
  clear ho hb L1 O1 HE hs
  go_wp2_with fail
  have N2 : Below w2.heap.size w2 (w2.alloc (.cells #[.slice A2 (setB l).length c2] 42)) := (by (first | assumption | (repeat (first | exact Below.refl _ _ | assumption | apply Below.drew | apply below_drewN | (refine Below.setCell ?_ (by (try simp) <;> omega) _) | (refine Below.alloc ?_ (by (try simp) <;> omega) _)))))
  have hj : Calls Tryd.prog 20 #[.int .u8 3, .slice (some ⟨w2.heap.size, 0, none⟩) 1 1] (w2.alloc (.cells #[.slice A2 (setB l).length c2] 42)) _ :=
    rjoin_any 3 (some ⟨w2.heap.size, 0, none⟩) [(A2, c2, setB l)] 1 _ (by unfold maxLen; simp) (by simp [catF]; rw [HLL.out]; omega) built_one (fun p hp => by
      rw [List.mem_singleton] at hp
      subst hp
      exact ⟨hc1, hc2, (HV.out.below N2).more N2.size⟩)
  rw [joinF_one, ← HST.out] at hj
  have O2' := Lib.hid (O2.out.alloc (.cells #[.slice A2 (setB l).length c2] 42))
  have L2' := Lib.hid (L2.out.trans (N2.mono L2.out.size))
  obtain ⟨J, hJ⟩ : ∃ J, setH l = J := ⟨_, rfl⟩
  have hJl : J.length = 32 := by rw [← hJ, setH_len]
  have hbl : (bts J).length = 32 := by rw [bts_len, hJl]
  rw [hJ] at hj
  have HJ := Lib.hid hj
  have HJJ := Lib.hid hJ
  clear hj hJ N2 O2 L2
  with_reducible refine HJ.out.mono ?_
  rintro e w3 ⟨rfl, hb3⟩
  have O3 := Lib.hid (O2'.out.below hb3 O2'.out.lt)
  have L3 := Lib.hid (L2'.out.trans (hb3.mono L2'.out.size))
  clear hb3 O2' L2' HJ HV
  go_wp2_with (refine wpList_puts (by rfl) 29 _ _ (by with_reducible rfl) go 0 (by rfl) (bts J) (by rfl) 29 (bts hash0) (by exact O3.out) 32 hbl (by rw [h0l]; omega) hi_hash bts_all ?_; intro w9 hb_ hm_ hz_; rw [put_hash0 _ hJl] at hb_; have HM9 := Lib.hid hm_; have HR9 := Lib.hid hb_; clear hb_ hm_ hz_)
  refine bodyPost_ret (results_cell2 rfl _ _ go 29 (bts J).toArray (0, 0) _ (.bool true) (by rfl) (by rfl) HR9.out Tryd.underlying29 rfl (by rw [hi_hash]; simp [hbl])) rfl ?_
  refine ⟨by rw [HJJ.out], L3.out.trans (HM9.out.to_below L3.out.size (fun k o e => ?_))⟩
  rw [e, ← HGO.out]
  exact Nat.le_refl _

set_option maxRecDepth 100000 in
set_option maxHeartbeats 4000000 in
theorem rvhash_any (A : Option Addr) (l : List (Int × Int)) (c : Nat) (w : World) (hl : l.length ≤ maxLen) (hk : keysOk l) (hA : Sl w w.heap.size 2 A l.length (vCells l)) :
    Calls Tryd.prog 8 #[.slice A l.length c] w fun e w' => e = .returned (.tuple #[.agg (bts (hashV l).1).toArray, .int .i64 (hashV l).2]) ∧ Below w.heap.size w w' := by
  have hzh := zero_hash
  have h0l : (bts hash0).length = 32 := by rw [bts_len, hash0_len]
  have HI := Lib.hid (fun (W : World) (hb : Below w.heap.size w W) => refRight_any A l c W hl ((hA.below hb).more hb.size))
  have HS := Lib.hid (fun (h : rightV l = true) (W : World) (hb : Below w.heap.size w W) => rsethash_any A l c W (right_le h) hk ((hA.below hb).more hb.size))
  clear hA hk
  go_enter Tryd.func8, Tryd.ntmps8
  go_upto_region 1 with fail
  have O1 := Lib.hid (Bk.new w 29 (bts hash0).toArray)
  have L1 : Hid (Below w.heap.size w (w.alloc (.cells (bts hash0).toArray 29))) := Lib.hid (by (first | assumption | (repeat (first | exact Below.refl _ _ | assumption | apply Below.drew | apply below_drewN | (refine Below.setCell ?_ (by (try simp) <;> omega) _) | (refine Below.alloc ?_ (by (try simp) <;> omega) _)))))
  obtain ⟨go, hgo⟩ : ∃ x, w.heap.size = x := ⟨_, rfl⟩
  obtain ⟨w1, hw1⟩ : ∃ x, w.alloc (.cells (bts hash0).toArray 29) = x := ⟨_, rfl⟩
  rw [hw1] at O1 L1 ⊢
  rw [hgo] at O1 ⊢
  have HGO := Lib.hid hgo
  clear hw1 hgo
  go_wp2_with fail
  with_reducible refine (HI.out w1 L1.out).mono ?_
  rintro e w2 ⟨rfl, hb2⟩
  have L2 := Lib.hid (L1.out.trans (hb2.mono L1.out.size))
  have O2 := Lib.hid (O1.out.below hb2 O1.out.lt)
  clear hb2 L1 O1 HI
  cases hrt : rightV l with
  | true =>
    obtain ⟨J, hJ⟩ : ∃ J, setH l = J := ⟨_, rfl⟩
    have hJl : J.length = 32 := by rw [← hJ, setH_len]
    have hbl : (bts J).length = 32 := by rw [bts_len, hJl]
    have HS2 := Lib.hid (HS.out hrt w2 L2.out)
    rw [hJ] at HS2
    have HJJ : Hid (hashV l = (J, 0)) := Lib.hid (by unfold hashV; rw [hrt, hJ]; rfl)
    clear hJ hrt HS
    go_wp2_with fail
    with_reducible refine HS2.out.mono ?_
    rintro e w4 ⟨rfl, hb3⟩
    have O4 := Lib.hid (O2.out.below hb3 O2.out.lt)
    have L4 := Lib.hid (L2.out.trans (hb3.mono L2.out.size))
    have hgo4 : go < w4.heap.size := O4.out.lt
    have N5 : Below w4.heap.size w4 (w4.alloc (.cells (bts hash0).toArray 29)) := (by (first | assumption | (repeat (first | exact Below.refl _ _ | assumption | apply Below.drew | apply below_drewN | (refine Below.setCell ?_ (by (try simp) <;> omega) _) | (refine Below.alloc ?_ (by (try simp) <;> omega) _)))))
    have L5 := Lib.hid (L4.out.trans (N5.mono L4.out.size))
    have hL4s := L4.out.size
    clear hb3 O2 L2 HS2 N5
    go_wp2_with (first
      | (refine wpList_puts (by rfl) 29 _ _ (by with_reducible rfl) w4.heap.size 0 (by rfl) (bts J) (by rfl) 29 (bts hash0) (by exact Bk.new w4 29 (bts hash0).toArray) 32 hbl (by rw [h0l]; omega) hi_hash bts_all ?_; intro w8 hb_ hm_ hz_; rw [put_hash0 _ hJl] at hb_; have hrg : w8.rangeAt w4.heap.size 0 (bts J) := (fun j v hj => by rw [hb_.cell, Nat.zero_add, List.getElem?_toArray]; exact hj); have O3 := Lib.hid (hm_.bk (O4.out.alloc (.cells (bts hash0).toArray 29)) (by show ¬ go = w4.heap.size; omega)); have L3 : Hid (Below w.heap.size w w8) := Lib.hid (L5.out.trans (hm_.to_below L5.out.size (fun k o e => by rw [e]; exact hL4s))); clear hb_ hm_ hz_)
      | (refine wpList_val (by rfl) (run_load_seg 29 _ (by with_reducible rfl) w4.heap.size 0 (by rfl) (bts J) hrg 32 hbl _ Tryd.underlying29 (by rfl) hi_hash) ?_)
      | (refine wpList_puts (by rfl) 29 _ _ (by with_reducible rfl) go 0 (by rfl) (bts J) (by rfl) 29 (bts hash0) (by exact O3.out) 32 hbl (by rw [h0l]; omega) hi_hash bts_all ?_; intro w9 hb_ hm_ hz_; rw [put_hash0 _ hJl] at hb_; have HM9 := Lib.hid hm_; have HR9 := Lib.hid hb_; clear hb_ hm_ hz_))
    refine bodyPost_ret (results_cell2 rfl _ _ go 29 (bts J).toArray (0, 0) _ (.int .i64 0) (by rfl) (by rfl) HR9.out Tryd.underlying29 rfl (by rw [hi_hash]; simp [hbl])) rfl ?_
    refine ⟨by rw [HJJ.out], L3.out.trans (HM9.out.to_below L3.out.size (fun k o e => ?_))⟩
    rw [e, ← HGO.out]
    exact Nat.le_refl _
  | false =>
    have HJJ : Hid (hashV l = (hash0, 71)) := Lib.hid (by unfold hashV; rw [hrt]; rfl)
    have hb0 : Tryd.prog.built 29 [] = some (bts hash0).toArray := by kernel_rfl
    have O3 := O2
    have L3 := L2
    clear hrt HS O2 L2
    go_wp2_with (first
      | (refine wpList_val (by rfl) (run_build_at 29 _ (by with_reducible rfl) (bts hash0) (by exact hb0)) ?_)
      | (refine wpList_puts (by rfl) 29 _ _ (by with_reducible rfl) go 0 (by rfl) (bts hash0) (by rfl) 29 (bts hash0) (by exact O3.out) 32 h0l (by rw [h0l]; omega) hi_hash bts_all ?_; intro w9 hb_ hm_ hz_; rw [put_all rfl] at hb_; have HM9 := Lib.hid hm_; have HR9 := Lib.hid hb_; clear hb_ hm_ hz_))
    refine bodyPost_ret (results_cell2 rfl _ _ go 29 (bts hash0).toArray (0, 0) _ (.int .i64 71) (by rfl) (by rfl) HR9.out Tryd.underlying29 rfl (by rw [hi_hash]; simp [h0l])) rfl ?_
    refine ⟨by rw [HJJ.out], L3.out.trans (HM9.out.to_below L3.out.size (fun k o e => ?_))⟩
    rw [e, ← HGO.out]
    exact Nat.le_refl _
end Go.Proofs.YthbkcjjpdhdidaaDoor
