/- What this text proves: the root of some hashes (the contract of merkle.root). The conditions: no more hashes than are asked about; how they lie in memory; that the package's table is as its text lays it. the contracts of merkle.Root and of the reference's Root. The conditions: no more entries, and no longer texts, than are asked about; how they lie in memory; that the package's table is as its text lays it. -/
import Derived.Test.YtdeikpifflkabaaDoorMerLeaves
import Derived.Test.YtdeikpifflkabaaDoorMerFew
import Derived.Test.YtdeikpifflkabaaDoorBlakeFn
import Derived.Test.YtdeikpifflkabaaDoorMerRefRoot
namespace Go.Proofs.YtdeikpifflkabaaDoor
open Go.RowKit
set_option linter.unusedVariables false
set_option linter.unusedSimpArgs false

theorem rootF_two' {l : List (List UInt8)} {k : Nat} (h : 2 ≤ l.length) (hk : splitN l.length = k) : pairF (rootF (l.take k)) (rootF (l.drop k)) = rootF l := by
  rw [rootF_two h, hk]
attribute [local irreducible] digF
set_option maxRecDepth 100000 in
set_option maxHeartbeats 4000000 in
theorem root_any : ∀ (n : Nat) (l : List (List UInt8)) (A : Option Addr) (c : Nat) (w : World), l.length = n → n ≤ 70 → n ≤ c → c ≤ maxLen → h32 l → Roots w → 0 < w.heap.size → Sl w w.heap.size 32 A l.length (hCells l) →
    Calls Tryd.prog 26 #[.slice A n c] w fun e w' => e = .returned (.agg (bts (rootF l)).toArray) ∧ Below w.heap.size w w' := by
  intro n
  induction n using Nat.strongRecOn with
  | _ n ih =>
  intro l A c w hn h70 hc hcm h32l hr h0 hA
  have hzh := zero_hash
  have h0l : (bts hash0).length = 32 := by rw [bts_len, hash0_len]
  have HR := Lib.hid hr
  have HA := Lib.hid hA
  have HH := Lib.hid h32l
  have IH := Lib.hid ih
  clear hr hA h32l ih
  unfold maxLen at hcm
  by_cases hn0 : n = 0
  · obtain rfl := hn0
    obtain rfl : l = [] := List.eq_nil_of_length_eq_zero hn
    obtain ⟨J, hJ⟩ : ∃ J, digF [] = J := ⟨_, rfl⟩
    have hJl : J.length = 32 := by rw [← hJ, digF_len]
    have hbl : (bts J).length = 32 := by rw [bts_len, hJl]
    have HJ : Hid (rootF [] = J) := Lib.hid (by rw [rootF_nil, hJ])
    obtain ⟨go, hgo⟩ : ∃ g, w.heap.size = g := ⟨_, rfl⟩
    have HGO := Lib.hid hgo
    go_enter Tryd.func26, Tryd.ntmps26
    go_upto_region 3 with fail
    have K1 := Lib.hid (Bk.new w 26 (bts hash0).toArray)
    have L1 : Hid (Below w.heap.size w (w.alloc (.cells (bts hash0).toArray 26))) := Lib.hid (by (first | assumption | (repeat (first | exact Below.refl _ _ | assumption | apply Below.drew | apply below_drewN | (refine Below.setCell ?_ (by (try simp) <;> omega) _) | (refine Below.alloc ?_ (by (try simp) <;> omega) _)))))
    obtain ⟨w1, hw1⟩ : ∃ W, w.alloc (.cells (bts hash0).toArray 26) = W := ⟨_, rfl⟩
    rw [hw1] at K1 L1 ⊢
    rw [hgo] at K1
    clear hw1 hgo
    have hc0 : Calls Tryd.prog 24 #[.slice none 0 0] w1 _ := digest_any none [] 0 w1 (HR.out.below L1.out h0) (by unfold maxLen; simp) (Sl.nil _ _ _ _) (Nat.lt_of_lt_of_le h0 L1.out.size)
    have HC := Lib.hid hc0
    clear hc0
    go_wp2_with fail
    with_reducible refine HC.out.mono ?_
    rintro e w2 ⟨rfl, hb2⟩
    have OB := Lib.hid (K1.out.below hb2 K1.out.lt)
    have L2 := Lib.hid (L1.out.trans (hb2.mono L1.out.size))
    rw [hJ]
    clear hb2 hJ HC K1 L1
    go_wp2_with (refine wpList_puts (by rfl) 26 _ _ (by with_reducible rfl) go 0 (by rfl) (bts J) (by rfl) 26 (bts hash0) (by exact OB.out) 32 hbl (by rw [h0l]; omega) hi_hash bts_all ?_; intro w9 hb_ hm_ hz_; rw [put_hash0 _ hJl] at hb_; have HM9 := Lib.hid hm_; have HR9 := Lib.hid hb_; clear hb_ hm_ hz_)
    refine bodyPost_ret (results_cell_row rfl _ _ go 26 (bts J).toArray (0, 0) _ (by rfl) HR9.out Tryd.underlying26 rfl (by rw [hi_hash]; simp [hbl])) rfl ?_
    exact ⟨by rw [HJ.out], L2.out.trans (HM9.out.to_below L2.out.size (fun k _ e => by rw [e, HGO.out]; exact Nat.le_refl _))⟩
  by_cases hn1 : n = 1
  · obtain rfl := hn1
    obtain ⟨b, off, J, rfl, hb, hx, hrg⟩ := HA.out.hsh HH.out (k := 0) (by omega)
    have hJl : J.length = 32 := HH.out.at_ hx
    have hbl : (bts J).length = 32 := by rw [bts_len, hJl]
    have HJ : Hid (rootF l = J) := Lib.hid (by
      match l, hn, hx with
      | [x], _, hx => simp at hx; subst hx; exact rootF_one _)
    rw [Nat.zero_mul, Nat.add_zero] at hrg
    have HRG := Lib.hid hrg
    obtain ⟨go, hgo⟩ : ∃ g, w.heap.size = g := ⟨_, rfl⟩
    have HGO := Lib.hid hgo
    clear hx hrg
    go_enter Tryd.func26, Tryd.ntmps26
    go_upto_region 5 with fail
    have OB := Lib.hid (Bk.new w 26 (bts hash0).toArray)
    have L1 : Hid (Below w.heap.size w (w.alloc (.cells (bts hash0).toArray 26))) := Lib.hid (by (first | assumption | (repeat (first | exact Below.refl _ _ | assumption | apply Below.drew | apply below_drewN | (refine Below.setCell ?_ (by (try simp) <;> omega) _) | (refine Below.alloc ?_ (by (try simp) <;> omega) _)))))
    obtain ⟨w1, hw1⟩ : ∃ W, w.alloc (.cells (bts hash0).toArray 26) = W := ⟨_, rfl⟩
    rw [hw1] at OB L1 ⊢
    rw [hgo] at OB
    have rA := rangeAt_below HRG.out L1.out hb
    clear hw1 hgo
    go_wp2_with (first
      | (refine wpList_val (by rfl) (run_load_seg 26 _ (by with_reducible rfl) b off (by rfl) _ rA 32 hbl _ Tryd.underlying26 (by rfl) hi_hash) ?_)
      | (refine wpList_puts (by rfl) 26 _ _ (by with_reducible rfl) go 0 (by rfl) (bts J) (by rfl) 26 (bts hash0) (by exact OB.out) 32 hbl (by rw [h0l]; omega) hi_hash bts_all ?_; intro w9 hb_ hm_ hz_; rw [put_hash0 _ hJl] at hb_; have HM9 := Lib.hid hm_; have HR9 := Lib.hid hb_; clear hb_ hm_ hz_))
    refine bodyPost_ret (results_cell_row rfl _ _ go 26 (bts J).toArray (0, 0) _ (by rfl) HR9.out Tryd.underlying26 rfl (by rw [hi_hash]; simp [hbl])) rfl ?_
    exact ⟨by rw [HJ.out], L1.out.trans (HM9.out.to_below L1.out.size (fun k _ e => by rw [e, HGO.out]; exact Nat.le_refl _))⟩
  · have h2 : 2 ≤ l.length := by omega
    obtain ⟨J, hJ⟩ : ∃ J, rootF l = J := ⟨_, rfl⟩
    have hJl : J.length = 32 := by rw [← hJ]; exact rootF_len HH.out
    have hbl : (bts J).length = 32 := by rw [bts_len, hJl]
    obtain ⟨k, hk⟩ : ∃ k, splitN l.length = k := ⟨_, rfl⟩
    have hkn := splitN_lt h2
    have hk1 := splitN_pos l.length
    have HP := Lib.hid (rootF_two' h2 hk)
    rw [hJ] at HP
    rw [hk] at hkn hk1
    have hsp := split_any n (by omega) (by omega)
    rw [← hn, hk] at hsp
    rw [hn] at hsp hkn
    have HSP := Lib.hid hsp
    have HJ := Lib.hid hJ
    have ha : (rootF (l.take k)).length = 32 := rootF_len (HH.out.take k)
    have hb : (rootF (l.drop k)).length = 32 := rootF_len (HH.out.drop k)
    have hlt : (l.take k).length = k := by rw [List.length_take]; omega
    have hld : (l.drop k).length = n - k := by rw [List.length_drop]; omega
    have HT := Lib.hid (show ∀ W, Below w.heap.size w W → Calls Tryd.prog 26 #[.slice A k c] W fun e w' => e = .returned (.agg (bts (rootF (l.take k))).toArray) ∧ Below W.heap.size W w' from fun W hb =>
      IH.out k hkn (l.take k) A c W hlt (by omega) (by omega) (by unfold maxLen; omega) (HH.out.take k) (HR.out.below hb h0) (Nat.lt_of_lt_of_le h0 hb.size) (((HA.out.htake HH.out (by omega)).below hb).more hb.size))
    obtain ⟨b, off, rfl, hbb, _⟩ := HA.out.2 (by omega)
    have HD := Lib.hid (show ∀ W, Below w.heap.size w W → Calls Tryd.prog 26 #[.slice (some ⟨b, off + k * 32, none⟩) ((n : Int) - (k : Int)).toNat ((c : Int) - (k : Int)).toNat] W fun e w' => e = .returned (.agg (bts (rootF (l.drop k))).toArray) ∧ Below W.heap.size W w' from fun W hb => by
      rw [show ((n : Int) - (k : Int)).toNat = n - k by omega, show ((c : Int) - (k : Int)).toNat = c - k by omega]
      have hs := HA.out.hdrop (cap := c) HH.out (k := k) (by omega) (by omega)
      have e : (some (⟨b, off, none⟩ : Addr)).map (·.add (k * 32)) = some ⟨b, off + k * 32, none⟩ := by
        simp only [Option.map_some, Addr.add]
        split
        · rename_i h0; omega
        · rfl
      rw [e] at hs
      exact IH.out (n - k) (by omega) (l.drop k) _ (c - k) W hld (by omega) (by omega) (by unfold maxLen; omega) (HH.out.drop k) (HR.out.below hb h0) (Nat.lt_of_lt_of_le h0 hb.size) ((hs.below hb).more hb.size))
    obtain ⟨go, hgo⟩ : ∃ g, w.heap.size = g := ⟨_, rfl⟩
    have HGO := Lib.hid hgo
    clear hsp hJ hlt hld hk
    go_enter Tryd.func26, Tryd.ntmps26
    go_upto_region 7 with (go_at_call 46; with_reducible refine (HSP.out _).mono ?_; rintro e w1 ⟨rfl, rfl⟩)
    have K1 := Bk.new w 26 (bts hash0).toArray
    have L1 : Below w.heap.size w (w.alloc (.cells (bts hash0).toArray 26)) := (by (first | assumption | (repeat (first | exact Below.refl _ _ | assumption | apply Below.drew | apply below_drewN | (refine Below.setCell ?_ (by (try simp) <;> omega) _) | (refine Below.alloc ?_ (by (try simp) <;> omega) _)))))
    obtain ⟨w1, hw1⟩ : ∃ W, w.alloc (.cells (bts hash0).toArray 26) = W := ⟨_, rfl⟩
    rw [hw1] at K1 L1 ⊢
    rw [hgo] at K1
    have HW : Hid (∀ W, Below w1.drew.heap.size w1.drew W → Bk W go 26 (bts hash0).toArray ∧ Below w.heap.size w W) := Lib.hid (fun W h =>
      have hd : Below w1.heap.size w1 w1.drew := (Below.refl _ _).drew
      ⟨K1.drew.below h K1.drew.lt, (L1.trans (hd.mono L1.size)).trans (h.mono (L1.trans (hd.mono L1.size)).size)⟩)
    clear hw1 K1 L1 hgo
    refine wp_region_each_tail 9 (lstV [fun v _ => v = .slice (some ⟨b, off, none⟩) n c, fun v _ => v = .int .i64 (k : Int), fun v _ => v = .slice (some ⟨b, off, none⟩) k c, fun v _ => v = .agg (bts (rootF (l.take k))).toArray, fun v _ => v = .slice (some ⟨b, off, none⟩) n c, fun v _ => v = .int .i64 (k : Int), fun v _ => v = .slice (some ⟨b, off + k * 32, none⟩) ((n : Int) - (k : Int)).toNat ((c : Int) - (k : Int)).toNat, fun v _ => v = .agg (bts (rootF (l.drop k))).toArray, fun v _ => v = .agg (bts J).toArray]) (by kernel_rfl) (by kernel_rfl) (lstV_on (by repeat' (first | exact forall_nil | refine forall_cons ?_ ?_ | exact stays_eq _))) ?turns ?fin
    case turns =>
      refine ⟨fun a W pre => ?_, fun a W pre => ?_, fun a W pre => ?_, fun a W pre => ?_, fun a W pre => ?_, fun a W pre => ?_, fun a W pre => ?_, fun a W pre => ?_, fun a W pre => ?_, trivial⟩
      · refine .inl ?_
        have q0 : a.eval (.tmp 0) = .slice (some ⟨b, off, none⟩) n c := pre.was 0 (by kernel_rfl) rfl
        rw [Act.eval, Array.getD_eq_getD_getElem?] at q0
        exact does_val (want_none rfl) (by go_simp) rfl
      · refine .inl ?_
        have q0 : a.eval (.tmp 3) = .int .i64 (k : Int) := pre.was 3 (by kernel_rfl) rfl
        rw [Act.eval, Array.getD_eq_getD_getElem?] at q0
        exact does_val (want_none rfl) (by go_simp) rfl
      · refine .inl ?_
        have q0 : a.eval (.tmp 17) = .slice (some ⟨b, off, none⟩) n c := pre.val 0 17 (by kernel_rfl) (by kernel_rfl)
        have q1 : a.eval (.tmp 18) = .int .i64 (k : Int) := pre.val 1 18 (by kernel_rfl) (by kernel_rfl)
        rw [Act.eval, Array.getD_eq_getD_getElem?] at q0 q1
        have hkc : k ≤ c := by omega
        exact does_val (want_none rfl) (by go_simp) rfl
      · refine .inl ?_
        have q0 : a.eval (.tmp 19) = .slice (some ⟨b, off, none⟩) k c := pre.val 2 19 (by kernel_rfl) (by kernel_rfl)
        rw [Act.eval, Array.getD_eq_getD_getElem?] at q0
        exact does_call (want_none rfl) (by go_simp) (HT.out W (HW.out W pre.b).2) (fun _ => rfl)
      · refine .inl ?_
        have q0 : a.eval (.tmp 0) = .slice (some ⟨b, off, none⟩) n c := pre.was 0 (by kernel_rfl) rfl
        rw [Act.eval, Array.getD_eq_getD_getElem?] at q0
        exact does_val (want_none rfl) (by go_simp) rfl
      · refine .inl ?_
        have q0 : a.eval (.tmp 3) = .int .i64 (k : Int) := pre.was 3 (by kernel_rfl) rfl
        rw [Act.eval, Array.getD_eq_getD_getElem?] at q0
        exact does_val (want_none rfl) (by go_simp) rfl
      · refine .inl ?_
        have q0 : a.eval (.tmp 21) = .slice (some ⟨b, off, none⟩) n c := pre.val 4 21 (by kernel_rfl) (by kernel_rfl)
        have q1 : a.eval (.tmp 22) = .int .i64 (k : Int) := pre.val 5 22 (by kernel_rfl) (by kernel_rfl)
        rw [Act.eval, Array.getD_eq_getD_getElem?] at q0 q1
        have hkn' : (k : Int) ≤ (n : Int) := by omega
        have hkc : ¬ c = k := by omega
        have hk0 : ¬ k = 0 := by omega
        exact does_val (want_none rfl) (by go_simp) rfl
      · refine .inl ?_
        have q0 : a.eval (.tmp 23) = .slice (some ⟨b, off + k * 32, none⟩) ((n : Int) - (k : Int)).toNat ((c : Int) - (k : Int)).toNat := pre.val 6 23 (by kernel_rfl) (by kernel_rfl)
        rw [Act.eval, Array.getD_eq_getD_getElem?] at q0
        exact does_call (want_none rfl) (by go_simp) (HD.out W (HW.out W pre.b).2) (fun _ => rfl)
      · refine .inl ?_
        have q0 : a.eval (.tmp 20) = .agg (bts (rootF (l.take k))).toArray := pre.val 3 20 (by kernel_rfl) (by kernel_rfl)
        have q1 : a.eval (.tmp 24) = .agg (bts (rootF (l.drop k))).toArray := pre.val 7 24 (by kernel_rfl) (by kernel_rfl)
        rw [Act.eval, Array.getD_eq_getD_getElem?] at q0 q1
        have hp := pair_any _ _ ha hb W (HR.out.below (HW.out W pre.b).2 h0) (Nat.lt_of_lt_of_le h0 (HW.out W pre.b).2.size)
        rw [HP.out] at hp
        exact does_call (want_none rfl) (by go_simp) hp (fun _ => rfl)
    case fin =>
      intro a W hbW hsz2 hd hv ho
      have qs : a.eval (.tmp 25) = .agg (bts J).toArray := hv 8 25 (by decide) (by kernel_rfl)
      have q4 : a.eval (.tmp 2) = .pointer (some ⟨go, 0, none⟩) := ho 2 (no_dst (by kernel_rfl))
      have hs8 : a.tmps.size = 26 := by rw [hsz2]; rfl
      obtain ⟨hbk, hbw⟩ := HW.out W hbW
      simp only [List.drop_succ_cons, List.drop_zero]
      refine wpList_puts (want_none rfl) 26 _ _ rfl go 0 q4 (bts J) qs 26 (bts hash0) hbk 32 hbl (by rw [h0l]; omega) hi_hash bts_all ?_
      intro w7 hb7 hm7 hz7
      rw [put_hash0 _ hJl] at hb7
      have HB7 := Lib.hid hb7
      have HM7 := Lib.hid hm7
      have HBW := Lib.hid hbw
      have p4 := q4
      rw [Act.eval] at p4
      have P4 := Lib.hid p4
      clear hb7 hm7 hbw hbk qs q4 p4 hbW hv ho
      go_wp2_with fail
      refine bodyPost_ret (results_cell_row rfl _ _ go 26 (bts J).toArray (0, 0) _ (by exact P4.out) HB7.out Tryd.underlying26 rfl (by rw [hi_hash]; simp [hbl])) (by exact hd) ?_
      refine ⟨by rw [HJ.out], HBW.out.trans (HM7.out.to_below HBW.out.size (fun k o e => ?_))⟩
      rw [e, HGO.out]
      exact Nat.le_refl _
end Go.Proofs.YtdeikpifflkabaaDoor

namespace Go.Proofs.YtdeikpifflkabaaDoor
open Go.RowKit
set_option linter.unusedVariables false
set_option linter.unusedSimpArgs false

theorem results_cell2 {P : Program} {fn : Func} {p q : Tmp} {ty : TypeId} (h : fn.results = #[.cell p ty, .tmp q]) (tmps : Array Value) (w : World) (g : Nat) (t : TypeId) (cs : Array Value) (fr : Nat × Nat) (d : TypeDesc) (x : Value)
    (hp : tmps.getD p undef = .pointer (some ⟨g, 0, none⟩)) (hq : tmps.getD q undef = x) (hg : w.heap[g]? = some (.cells cs t fr))
    (hu : P.underlying ty = some d) (hd : (match d with | .struct _ | .array _ _ => true | _ => false) = true) (hi : (P.info? ty).map (·.size) = some cs.size) :
    (results fn tmps).run P w = .ok (.tuple #[.agg cs, x]) w := by
  have hp' : tmps[p]?.getD undef = .pointer (some ⟨g, 0, none⟩) := by simpa using hp
  have hq' : tmps[q]?.getD undef = x := by simpa using hq
  simp [results, h, hp', hq', asAddr, run_loadVar_row w g t ty cs fr d hg hu hd hi]
/-- What Root says. -/
def rootV (l : List Ent) : List UInt8 × Int := if ascK l then (rootE l, 0) else (hash0, 51)
theorem rootV_32 (l : List Ent) : (rootV l).1.length = 32 := by
  unfold rootV
  split
  · exact rootE_len l
  · exact hash0_len
attribute [local irreducible] digF
set_option maxRecDepth 100000 in
set_option maxHeartbeats 4000000 in
theorem Root_any (A : Option Addr) (l : List Ent) (c : Nat) (w : World) (hl : l.length ≤ 70) (hf : Fits l) (hr : Roots w) (h0 : 0 < w.heap.size) (hA : Sl w w.heap.size 2 A l.length (eCells l)) :
    Calls Tryd.prog 12 #[.slice A l.length c] w fun e w' => e = .returned (.tuple #[.agg (bts (rootV l).1).toArray, .int .i64 (rootV l).2]) ∧ Below w.heap.size w w' := by
  have hzh := zero_hash
  have h0l : (bts hash0).length = 32 := by rw [bts_len, hash0_len]
  have HA := Lib.hid hA
  have HF := Lib.hid hf
  have HR := Lib.hid hr
  obtain ⟨go, hgo⟩ : ∃ x, w.heap.size = x := ⟨_, rfl⟩
  have HGO := Lib.hid hgo
  clear hA hf hr
  go_enter Tryd.func12, Tryd.ntmps12
  go_upto_region 1 with fail
  have K1 := Lib.hid (Bk.new w 26 (bts hash0).toArray)
  have L1 : Hid (Below w.heap.size w (w.alloc (.cells (bts hash0).toArray 26))) := Lib.hid (by (first | assumption | (repeat (first | exact Below.refl _ _ | assumption | apply Below.drew | apply below_drewN | (refine Below.setCell ?_ (by (try simp) <;> omega) _) | (refine Below.alloc ?_ (by (try simp) <;> omega) _)))))
  obtain ⟨w1, hw1⟩ : ∃ W, w.alloc (.cells (bts hash0).toArray 26) = W := ⟨_, rfl⟩
  rw [hw1] at K1 L1 ⊢
  rw [hgo] at K1
  clear hw1 hgo
  have HRT := Lib.hid (right_any A l c w1 hl HF.out ((HA.out.below L1.out).more L1.out.size))
  have HAS : ∃ s, ascK l = s := ⟨_, rfl⟩
  obtain ⟨s, hs⟩ := HAS
  rw [hs] at HRT
  have HS := Lib.hid hs
  clear hs
  cases s with
  | false =>
    have HJ : Hid (rootV l = (hash0, 51)) := Lib.hid (by unfold rootV; rw [HS.out]; rfl)
    have hb0 : Tryd.prog.built 26 [] = some (bts hash0).toArray := by kernel_rfl
    obtain ⟨J, hJz⟩ : ∃ J, hash0 = J := ⟨_, rfl⟩
    have hJl : J.length = 32 := by rw [← hJz, hash0_len]
    have hbl : (bts J).length = 32 := by rw [bts_len, hJl]
    have hb0' : Tryd.prog.built 26 [] = some (bts J).toArray := by rw [← hJz]; exact hb0
    rw [hJz] at HJ
    clear hJz hb0
    go_wp2_with (first
      | (go_at_call 10; with_reducible refine HRT.out.mono ?_; rintro e w2 ⟨rfl, hb2⟩; have OB := Lib.hid (K1.out.below hb2 K1.out.lt); have L2 := Lib.hid (L1.out.trans (hb2.mono L1.out.size)); clear hb2)
      | (refine wpList_val (by rfl) (run_build_at 26 _ (by with_reducible rfl) (bts J) (by exact hb0')) ?_)
      | (refine wpList_puts (by rfl) 26 _ _ (by with_reducible rfl) go 0 (by rfl) (bts J) (by rfl) 26 (bts hash0) (by exact OB.out) 32 hbl (by rw [h0l]; omega) hi_hash bts_all ?_; intro w9 hb_ hm_ hz_; rw [put_hash0 _ hJl] at hb_; have HM9 := Lib.hid hm_; have HR9 := Lib.hid hb_; clear hb_ hm_ hz_))
    refine bodyPost_ret (results_cell2 rfl _ _ go 26 (bts J).toArray (0, 0) _ (.int .i64 51) (by rfl) (by rfl) HR9.out Tryd.underlying26 rfl (by rw [hi_hash]; simp [hbl])) rfl ?_
    exact ⟨by rw [HJ.out], L2.out.trans (HM9.out.to_below L2.out.size (fun k _ e => by rw [e, HGO.out]; exact Nat.le_refl _))⟩
  | true =>
    obtain ⟨J, hJz⟩ : ∃ J, rootE l = J := ⟨_, rfl⟩
    have hJl : J.length = 32 := by rw [← hJz, rootE_len]
    have hbl : (bts J).length = 32 := by rw [bts_len, hJl]
    have HJ : Hid (rootV l = (J, 0)) := Lib.hid (by unfold rootV; rw [HS.out, if_pos rfl, hJz])
    have HE : Hid (rootF (l.map leafF) = J) := Lib.hid hJz
    clear hJz
    go_wp2_with (go_at_call 10; with_reducible refine HRT.out.mono ?_; rintro e w2 ⟨rfl, hb2⟩; have K2 := Lib.hid (K1.out.below hb2 K1.out.lt); have L2 := Lib.hid (L1.out.trans (hb2.mono L1.out.size)); clear hb2)
    with_reducible refine (leaves_any A l c w2 hl HF.out (HR.out.below L2.out h0) (Nat.lt_of_lt_of_le h0 L2.out.size) ((HA.out.below L2.out).more L2.out.size)).mono ?_
    rintro e w3 ⟨A3, c3, rfl, h31, h32', h33, hb3⟩
    have K3 := Lib.hid (K2.out.below hb3 K2.out.lt)
    have L3 := Lib.hid (L2.out.trans (hb3.mono L2.out.size))
    have H3 := Lib.hid (And.intro h31 (And.intro h32' h33))
    clear hb3 K1 K2 L1 L2 h31 h32' h33 HRT
    go_wp2_with fail
    have hrc := root_any l.length (l.map leafF) A3 c3 w3 (by simp) hl H3.out.1 H3.out.2.1 (leaves_32 l) (HR.out.below L3.out h0) (Nat.lt_of_lt_of_le h0 L3.out.size) (by rw [List.length_map]; exact H3.out.2.2)
    rw [HE.out] at hrc
    have HRC := Lib.hid hrc
    clear hrc
    with_reducible refine HRC.out.mono ?_
    rintro e w4 ⟨rfl, hb4⟩
    have OB := Lib.hid (K3.out.below hb4 K3.out.lt)
    have L4 := Lib.hid (L3.out.trans (hb4.mono L3.out.size))
    clear hb4 K3 L3 HRC H3
    go_wp2_with (refine wpList_puts (by rfl) 26 _ _ (by with_reducible rfl) go 0 (by rfl) (bts J) (by rfl) 26 (bts hash0) (by exact OB.out) 32 hbl (by rw [h0l]; omega) hi_hash bts_all ?_; intro w9 hb_ hm_ hz_; rw [put_hash0 _ hJl] at hb_; have HM9 := Lib.hid hm_; have HR9 := Lib.hid hb_; clear hb_ hm_ hz_)
    refine bodyPost_ret (results_cell2 rfl _ _ go 26 (bts J).toArray (0, 0) _ (.int .i64 0) (by rfl) (by rfl) HR9.out Tryd.underlying26 rfl (by rw [hi_hash]; simp [hbl])) rfl ?_
    exact ⟨by rw [HJ.out], L4.out.trans (HM9.out.to_below L4.out.size (fun k _ e => by rw [e, HGO.out]; exact Nat.le_refl _))⟩

set_option maxRecDepth 100000 in
set_option maxHeartbeats 4000000 in
theorem rRoot_any (A : Option Addr) (l : List Ent) (c : Nat) (w : World) (hl : l.length ≤ 70) (hlc : l.length ≤ c) (hcm : c ≤ maxLen) (hf : Fits l) (hA : Sl w w.heap.size 2 A l.length (eCells l)) :
    Calls Tryd.prog 17 #[.slice A l.length c] w fun e w' => e = .returned (.tuple #[.agg (bts (rootV l).1).toArray, .int .i64 (rootV l).2]) ∧ Below w.heap.size w w' := by
  have hzh := zero_hash
  have h0l : (bts hash0).length = 32 := by rw [bts_len, hash0_len]
  have HA := Lib.hid hA
  have HF := Lib.hid hf
  have HCM := Lib.hid hcm
  obtain ⟨go, hgo⟩ : ∃ x, w.heap.size = x := ⟨_, rfl⟩
  have HGO := Lib.hid hgo
  clear hA hf hcm
  go_enter Tryd.func17, Tryd.ntmps17
  go_upto_region 1 with fail
  have K1 := Lib.hid (Bk.new w 26 (bts hash0).toArray)
  have L1 : Hid (Below w.heap.size w (w.alloc (.cells (bts hash0).toArray 26))) := Lib.hid (by (first | assumption | (repeat (first | exact Below.refl _ _ | assumption | apply Below.drew | apply below_drewN | (refine Below.setCell ?_ (by (try simp) <;> omega) _) | (refine Below.alloc ?_ (by (try simp) <;> omega) _)))))
  obtain ⟨w1, hw1⟩ : ∃ W, w.alloc (.cells (bts hash0).toArray 26) = W := ⟨_, rfl⟩
  rw [hw1] at K1 L1 ⊢
  rw [hgo] at K1
  clear hw1 hgo
  have HRT := Lib.hid (rright_any A l c w1 hl HF.out ((HA.out.below L1.out).more L1.out.size))
  have HAS : ∃ s, ascK l = s := ⟨_, rfl⟩
  obtain ⟨s, hs⟩ := HAS
  rw [hs] at HRT
  have HS := Lib.hid hs
  clear hs
  cases s with
  | false =>
    have HJ : Hid (rootV l = (hash0, 51)) := Lib.hid (by unfold rootV; rw [HS.out]; rfl)
    have hb0 : Tryd.prog.built 26 [] = some (bts hash0).toArray := by kernel_rfl
    obtain ⟨J, hJz⟩ : ∃ J, hash0 = J := ⟨_, rfl⟩
    have hJl : J.length = 32 := by rw [← hJz, hash0_len]
    have hbl : (bts J).length = 32 := by rw [bts_len, hJl]
    have hb0' : Tryd.prog.built 26 [] = some (bts J).toArray := by rw [← hJz]; exact hb0
    rw [hJz] at HJ
    clear hJz hb0
    go_wp2_with (first
      | (go_at_call 21; with_reducible refine HRT.out.mono ?_; rintro e w2 ⟨rfl, hb2⟩; have OB := Lib.hid (K1.out.below hb2 K1.out.lt); have L2 := Lib.hid (L1.out.trans (hb2.mono L1.out.size)); clear hb2)
      | (refine wpList_val (by rfl) (run_build_at 26 _ (by with_reducible rfl) (bts J) (by exact hb0')) ?_)
      | (refine wpList_puts (by rfl) 26 _ _ (by with_reducible rfl) go 0 (by rfl) (bts J) (by rfl) 26 (bts hash0) (by exact OB.out) 32 hbl (by rw [h0l]; omega) hi_hash bts_all ?_; intro w9 hb_ hm_ hz_; rw [put_hash0 _ hJl] at hb_; have HM9 := Lib.hid hm_; have HR9 := Lib.hid hb_; clear hb_ hm_ hz_))
    refine bodyPost_ret (results_cell2 rfl _ _ go 26 (bts J).toArray (0, 0) _ (.int .i64 51) (by rfl) (by rfl) HR9.out Tryd.underlying26 rfl (by rw [hi_hash]; simp [hbl])) rfl ?_
    exact ⟨by rw [HJ.out], L2.out.trans (HM9.out.to_below L2.out.size (fun k _ e => by rw [e, HGO.out]; exact Nat.le_refl _))⟩
  | true =>
    obtain ⟨J, hJz⟩ : ∃ J, rootE l = J := ⟨_, rfl⟩
    have hJl : J.length = 32 := by rw [← hJz, rootE_len]
    have hbl : (bts J).length = 32 := by rw [bts_len, hJl]
    have HJ : Hid (rootV l = (J, 0)) := Lib.hid (by unfold rootV; rw [HS.out, if_pos rfl, hJz])
    have HE : Hid (rootE l = J) := Lib.hid hJz
    clear hJz
    go_wp2_with (go_at_call 21; with_reducible refine HRT.out.mono ?_; rintro e w2 ⟨rfl, hb2⟩; have K2 := Lib.hid (K1.out.below hb2 K1.out.lt); have L2 := Lib.hid (L1.out.trans (hb2.mono L1.out.size)); clear hb2)
    have hrc := mroot_any l.length l A c w2 rfl hl hlc HCM.out HF.out ((HA.out.below L2.out).more L2.out.size)
    rw [HE.out] at hrc
    have HRC := Lib.hid hrc
    clear hrc
    with_reducible refine HRC.out.mono ?_
    rintro e w4 ⟨rfl, hb4⟩
    have OB := Lib.hid (K2.out.below hb4 K2.out.lt)
    have L4 := Lib.hid (L2.out.trans (hb4.mono L2.out.size))
    clear hb4 K1 K2 L1 L2 HRC HRT
    go_wp2_with (refine wpList_puts (by rfl) 26 _ _ (by with_reducible rfl) go 0 (by rfl) (bts J) (by rfl) 26 (bts hash0) (by exact OB.out) 32 hbl (by rw [h0l]; omega) hi_hash bts_all ?_; intro w9 hb_ hm_ hz_; rw [put_hash0 _ hJl] at hb_; have HM9 := Lib.hid hm_; have HR9 := Lib.hid hb_; clear hb_ hm_ hz_)
    refine bodyPost_ret (results_cell2 rfl _ _ go 26 (bts J).toArray (0, 0) _ (.int .i64 0) (by rfl) (by rfl) HR9.out Tryd.underlying26 rfl (by rw [hi_hash]; simp [hbl])) rfl ?_
    exact ⟨by rw [HJ.out], L4.out.trans (HM9.out.to_below L4.out.size (fun k _ e => by rw [e, HGO.out]; exact Nat.le_refl _))⟩
end Go.Proofs.YtdeikpifflkabaaDoor
