/- What this text proves: the contract of the reference's Join. The conditions are how the parts lie in memory and that they are not too many. -/
import Derived.Test.YtdeikpifflkabaaDoorRefBlakeS
import Derived.Test.YtdeikpifflkabaaDoorBlakeJoin
namespace Go.Proofs.YtdeikpifflkabaaDoor
open Go.RowKit
set_option linter.unusedVariables false
set_option linter.unusedSimpArgs false

theorem catF_take (l : List Part) (k : Nat) : (catF (l.take k)).length ≤ (catF l).length := by
  have : catF l = catF (l.take k) ++ catF (l.drop k) := by
    unfold catF
    rw [← List.flatMap_append, List.take_append_drop]
  rw [this]
  simp
attribute [local irreducible] digF
set_option maxRecDepth 100000 in
set_option maxHeartbeats 4000000 in
theorem rjoin_any (t : UInt8) (A : Option Addr) (l : List Part) (c : Nat) (w : World) (hl : l.length ≤ maxLen) (hsum : (catF l).length ≤ 100000000) (hA : Sl w w.heap.size 1 A l.length (l.map slv)) (hg : ∀ p ∈ l, p.good w) :
    Calls Tryd.prog 59 #[.int .u8 (t.toNat : Int), .slice A l.length c] w fun e w' => e = .returned (.agg (bts (joinF t l)).toArray) ∧ Below w.heap.size w w' := by
  have hzh := zero_hash
  unfold maxLen at hl
  have HA := Lib.hid hA
  have HG := Lib.hid hg
  have HSUM := Lib.hid (fun k => Nat.le_trans (catF_take l k) hsum)
  clear hA hg hsum
  obtain ⟨i0, hi, hz0, hz1, hz2⟩ := info_parts u8_info
  have h0l : (bts hash0).length = 32 := by rw [bts_len, hash0_len]
  go_enter Tryd.func59, Tryd.ntmps59
  go_upto_region 1 with fail
  have O1 := Lib.hid (Bk.new w 26 (bts hash0).toArray)
  have L1 : Hid (Below w.heap.size w (w.alloc (.cells (bts hash0).toArray 26))) := Lib.hid (by (first | assumption | (repeat (first | exact Below.refl _ _ | assumption | apply Below.drew | apply below_drewN | (refine Below.setCell ?_ (by (try simp) <;> omega) _) | (refine Below.alloc ?_ (by (try simp) <;> omega) _)))))
  have z1 : (w.alloc (.cells (bts hash0).toArray 26)).heap.size = w.heap.size + 1 := by simp
  obtain ⟨go, hgo⟩ : ∃ x, w.heap.size = x := ⟨_, rfl⟩
  obtain ⟨w1, hw1⟩ : ∃ x, w.alloc (.cells (bts hash0).toArray 26) = x := ⟨_, rfl⟩
  rw [hw1] at O1 L1 z1 ⊢
  have hgw : w.heap.size ≤ go := Nat.le_of_eq hgo
  have HGO := Lib.hid hgo
  rw [hgo] at O1 z1 ⊢
  clear hw1 hgo
  obtain ⟨g2, hg2⟩ : ∃ x, w1.heap.size = x := ⟨_, rfl⟩
  have HG2 := Lib.hid hg2
  rw [hg2] at z1
  have Z1 := Lib.hid z1
  clear hg2 z1
  go_upto_region 2 with fail
  have hg2 := HG2.out
  have hgg : go < g2 := by have := Z1.out; omega
  have O2 := Lib.hid (World.ownsRow_lit (base := g2) (e := 5) (size := 1) w1 #[.int .u8 (t.toNat : Int)] 1 (Nat.le_of_eq hg2.symm) (by unfold maxLen; omega) (by simp))
  have L2 : Hid (Below g2 w1 (w1.alloc (.cells #[.int .u8 (t.toNat : Int)] 5))) := Lib.hid (by rw [← hg2]; (first | assumption | (repeat (first | exact Below.refl _ _ | assumption | apply Below.drew | apply below_drewN | (refine Below.setCell ?_ (by (try simp) <;> omega) _) | (refine Below.alloc ?_ (by (try simp) <;> omega) _)))))
  rw [hg2] at O2 ⊢
  clear hg2
  go_wp2_with fail
  go_loopw [5, 6] (fun v i W => ∃ (k : Nat), k ≤ l.length ∧ i = .int .i64 k ∧ W.ownsRow g2 5 1 v (t :: catF (l.take k)).length (bts (t :: catF (l.take k))) ∧ Below g2 w1 W) (fun _ i _ => l.length - (intOf i).toNat)
  case atStart => exact ⟨0, by omega, rfl, O2.out, L2.out⟩
  case round =>
    obtain ⟨k, hk, rfl, ho, hb⟩ := hrel
    have O := Lib.hid ho
    have L := Lib.hid hb
    have hszr := L.out.size
    rw [HG2.out] at hszr
    have LW : Hid (Below w.heap.size w wr) := Lib.hid (L1.out.trans (L.out.mono (by rw [HGO.out]; omega)))
    clear ho hb O2 L2
    have hcl := HSUM.out k
    have hclen : (t :: catF (l.take k)).length = (catF (l.take k)).length + 1 := by simp
    by_cases hlt : k < l.length
    · have hlt' : (k : Int) < (l.length : Int) := by omega
      obtain ⟨p, hp⟩ : ∃ p, l[k]? = some p := ⟨_, List.getElem?_eq_getElem hlt⟩
      obtain ⟨hp1, hp2, hps⟩ := HG.out p (List.mem_of_getElem? hp)
      obtain ⟨b, off, rfl, hbl, hcc⟩ := HA.out.2 (by omega)
      have hcell := (LW.out.cell (p := ⟨b, off + k, none⟩) hbl).trans (hcc k (slv p) (by rw [List.getElem?_map, hp]; rfl))
      have hcat : Hid (t :: catF (l.take k) ++ p.2.2 = t :: catF (l.take (k + 1))) := Lib.hid (by rw [take_at hp, catF, catF, List.flatMap_append]; simp)
      obtain ⟨pa, pc, pl⟩ := p
      simp only [slv] at hcell hp1 hp2 hps hcat
      have PS := Lib.hid hps
      have hnext := HSUM.out (k + 1)
      have hpl : pl.length ≤ 100000000 := by
        have := congrArg List.length hcat.out
        simp at this
        omega
      have HPL := Lib.hid hpl
      have HPC := Lib.hid hp1
      clear hcc hps hp hnext hp2 hp1
      obtain ⟨T, hT⟩ : ∃ T, t :: catF (l.take k) = T := ⟨_, rfl⟩
      rw [hT] at O hclen hcat
      have hTl : T.length ≤ 100000001 := by omega
      clear hT hclen hcl
      go_wp2_with (refine wpList_append_sl wr (by rfl) _ _ 59 (by rfl) g2 5 i0 _ 1 1 Tryd.underlying59 hi hz0 hz1 hz2 rfl (by omega) _ T.length (bts T) (by rfl) O.out pa pl.length pc (bts pl) (by rfl) ((PS.out.below LW.out).more LW.out.size) bts_one (by unfold maxLen; omega) (by omega) hszr ?_; intro v5 w5 ho_ hg_ hv_)
      have O5 : Hid (w5.ownsRow g2 5 1 v5 (t :: catF (l.take (k + 1))).length (bts (t :: catF (l.take (k + 1))))) := Lib.hid (by
        have e1 : T.length + pl.length = (T ++ pl).length := by simp
        have e2 : bts T ++ bts pl = bts (T ++ pl) := by simp [bts]
        rw [e1, e2, hcat.out] at ho_
        exact ho_)
      have L5 : Hid (Below g2 w1 w5) := Lib.hid (L.out.grown hg_ hszr (fun k hk => (own_cells O.out hk).1))
      clear ho_ hg_ hv_ O L
      go_roundw
      case rel => exact ⟨k + 1, by omega, by go_num, O5.out, L5.out⟩
      case measure => simp [intOf]; omega
    · obtain rfl : k = l.length := by omega
      have ho := O.out
      rw [List.take_length] at ho hcl hclen
      have hJ : joinF t l = digF (t :: catF l) := rfl
      obtain ⟨T, hT⟩ : ∃ T, t :: catF l = T := ⟨_, rfl⟩
      rw [hT] at ho hJ hclen
      have hTl : T.length ≤ 100000001 := by omega
      obtain ⟨Av, cv, rfl, hv1, hv2, hvs⟩ := own_sl ho
      have VS := Lib.hid hvs
      have HV := Lib.hid hv1
      have HJ := Lib.hid hJ
      have O3 : Hid (Bk wr go 26 (bts hash0).toArray) := Lib.hid (O1.out.below L.out (by omega))
      clear ho hvs hv1 hT O hJ hclen hcl
      go_wp2_with fail
      with_reducible refine (rsum_any Av T cv wr (by omega) HV.out VS.out).mono ?_
      rintro e w4 ⟨rfl, hb4⟩
      have O4 := Lib.hid (O3.out.below hb4 O3.out.lt)
      have LW4 : Hid (Below w.heap.size w w4) := Lib.hid (LW.out.trans (hb4.mono LW.out.size))
      clear hb4
      have hJl := digF_len T
      have hbl : (bts (digF T)).length = 32 := by rw [bts_len, hJl]
      go_wp2_with (refine wpList_puts (by rfl) 26 _ _ (by with_reducible rfl) go 0 (by rfl) (bts (digF T)) (by rfl) 26 (bts hash0) (by exact O4.out) 32 hbl (by rw [h0l]; omega) hi_hash bts_all ?_; intro w9 hb_ hm_ hz_; rw [put_hash0 _ hJl] at hb_; have HM9 := Lib.hid hm_; have HR9 := Lib.hid hb_; clear hb_ hm_ hz_)
      refine bodyPost_ret (results_cell_row rfl _ _ go 26 (bts (digF T)).toArray (0, 0) _ (by rfl) HR9.out Tryd.underlying26 rfl (by rw [hi_hash]; simp [hbl])) rfl ?_
      exact ⟨by rw [HJ.out], LW4.out.trans (HM9.out.to_below LW4.out.size (fun k _ e => by omega))⟩
end Go.Proofs.YtdeikpifflkabaaDoor
