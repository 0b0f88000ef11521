/- What this text proves: the contract of blake.Join. The conditions are how the parts lie in memory, and that the package's table is as its text lays it. -/
import Derived.Test.YtdeikpifflkabaaDoorBlakeOwn
namespace Go.Proofs.YtdeikpifflkabaaDoor
open Go.RowKit
set_option linter.unusedVariables false
set_option linter.unusedSimpArgs false

def catF (l : List Part) : List UInt8 := l.flatMap (fun p => p.2.2)
def joinF (t : UInt8) (l : List Part) : List UInt8 := digF (t :: catF l)

attribute [local irreducible] digF
set_option maxRecDepth 100000 in
set_option maxHeartbeats 4000000 in
theorem join_any (t : UInt8) (A : Option Addr) (l : List Part) (c : Nat) (w : World) (hr : Roots w) (h0 : 0 < w.heap.size) (hl : l.length ≤ maxLen) (hA : Sl w w.heap.size 1 A l.length (l.map slv)) (hg : ∀ p ∈ l, p.good w) :
    Calls Tryd.prog 62 #[.int .u8 (t.toNat : Int), .slice A l.length c] w fun e w' => e = .returned (.agg (bts (joinF t l)).toArray) ∧ Below w.heap.size w w' := by
  have hzh := zero_hash
  unfold maxLen at hl
  have HR := Lib.hid hr
  have HA := Lib.hid hA
  have HG := Lib.hid hg
  clear hr hA hg
  have h0l : (bts hash0).length = 32 := by rw [bts_len, hash0_len]
  go_enter Tryd.func62, Tryd.ntmps62
  go_upto_region 1 with fail
  have O1 := Lib.hid (Bk.new w 26 (bts hash0).toArray)
  have L1 : Hid (Below w.heap.size w (w.alloc (.cells (bts hash0).toArray 26))) := Lib.hid (by (first | assumption | (repeat (first | exact Below.refl _ _ | assumption | apply Below.drew | apply below_drewN | (refine Below.setCell ?_ (by (try simp) <;> omega) _) | (refine Below.alloc ?_ (by (try simp) <;> omega) _)))))
  have z1 : (w.alloc (.cells (bts hash0).toArray 26)).heap.size = w.heap.size + 1 := by simp
  obtain ⟨go, hgo⟩ : ∃ x, w.heap.size = x := ⟨_, rfl⟩
  obtain ⟨w1, hw1⟩ : ∃ x, w.alloc (.cells (bts hash0).toArray 26) = x := ⟨_, rfl⟩
  rw [hw1] at O1 L1 z1 ⊢
  have hgw : w.heap.size ≤ go := Nat.le_of_eq hgo
  rw [hgo] at O1 ⊢
  clear hw1
  go_wp2_with fail
  with_reducible refine (dg_new HR.out h0 L1.out).mono ?_
  rintro e w2 ⟨gs, rfl, hs0, hs1, hb2⟩
  have S2 := Lib.hid hs1
  have O2 := Lib.hid (O1.out.below hb2 (by omega))
  have hne : gs ≠ go := by omega
  clear hs1 hb2 hs0 O1 L1
  go_wp2_with fail
  have L3 : Hid (Below w2.heap.size w2 (w2.alloc (.cells #[.int .u8 (t.toNat : Int)] 5))) := Lib.hid (by (first | assumption | (repeat (first | exact Below.refl _ _ | assumption | apply Below.drew | apply below_drewN | (refine Below.setCell ?_ (by (try simp) <;> omega) _) | (refine Below.alloc ?_ (by (try simp) <;> omega) _)))))
  have B3 := Bk.new w2 5 #[.int .u8 (t.toNat : Int)]
  obtain ⟨w3, hw3⟩ : ∃ x, w2.alloc (.cells #[.int .u8 (t.toNat : Int)] 5) = x := ⟨_, rfl⟩
  rw [hw3] at L3 B3 ⊢
  clear hw3
  have S3 := Lib.hid (S2.out.below L3.out)
  have O3 := Lib.hid (O2.out.below L3.out O2.out.lt)
  have hsrc : Src w3 gs (some ⟨w2.heap.size, 0, none⟩) [t] := fun _ => ⟨w2.heap.size, 0, rfl, fun e => by have := S2.out.s.lt; omega, fun j u hu => by rw [Nat.zero_add, B3.cell, List.getElem?_toArray]; exact hu⟩
  have hwt : Calls Tryd.prog 44 #[.pointer (some ⟨gs, 0, none⟩), .slice (some ⟨w2.heap.size, 0, none⟩) 1 1] w3 _ := dg_write HR.out h0 S3.out (some ⟨w2.heap.size, 0, none⟩) 1 (m := [t]) (by unfold maxLen; simp) hsrc
  with_reducible refine hwt.mono ?_
  rintro e w4 ⟨rfl, hs4, hm4⟩
  have S4 : Hid (DgAt w gs (t :: catF (l.take 0)) w4) := Lib.hid hs4
  have O4 := Lib.hid (hm4.bk O3.out (Ne.symm hne))
  clear hs4 hm4 S2 O2 L3 B3 S3 O3 hsrc hwt
  go_wp2_with fail
  go_loopw [15] (fun i wr => ∃ (k : Nat), k ≤ l.length ∧ i = .int .i64 k ∧ DgAt w gs (t :: catF (l.take k)) wr ∧ Bk wr go 26 (bts hash0).toArray) (fun i _ => l.length - (intOf i).toNat)
  case atStart => exact ⟨0, by omega, rfl, S4.out, O4.out⟩
  case round =>
    obtain ⟨k, hk, rfl, hd, hb⟩ := hrel
    have D := Lib.hid hd
    have O := Lib.hid hb
    clear hd hb S4 O4
    by_cases hlt : k < l.length
    · have hlt' : (k : Int) < (l.length : Int) := by omega
      obtain ⟨p, hp⟩ : ∃ p, l[k]? = some p := ⟨_, List.getElem?_eq_getElem hlt⟩
      obtain ⟨hp1, hp2, hps⟩ := HG.out p (List.mem_of_getElem? hp)
      obtain ⟨b, off, rfl, hbl, hcc⟩ := HA.out.2 (by omega)
      have hcell := (D.out.b.cell (p := ⟨b, off + k, none⟩) hbl).trans (hcc k (slv p) (by rw [List.getElem?_map, hp]; rfl))
      have hcat : Hid (t :: catF (l.take k) ++ p.2.2 = t :: catF (l.take (k + 1))) := Lib.hid (by rw [take_at hp, catF, catF, List.flatMap_append]; simp)
      obtain ⟨pa, pc, pl⟩ := p
      simp only [slv] at hcell hp1 hp2 hps hcat
      have PS := Lib.hid hps
      have hpl : pl.length ≤ maxLen := by omega
      have HP := Lib.hid hpl
      clear hcc hps hp hpl hp1 hp2
      go_wp2_with fail
      with_reducible refine (dg_write HR.out h0 D.out pa pc HP.out (Src.of_sl (PS.out.below D.out.b) D.out.ge)).mono ?_
      rintro e w5 ⟨rfl, hd5, hm5⟩
      rw [hcat.out] at hd5
      have D5 := Lib.hid hd5
      have O5 := Lib.hid (hm5.bk O.out (Ne.symm hne))
      clear hd5 hm5 D O
      go_wp2_with fail
      go_roundw
      case rel => exact ⟨k + 1, by omega, by go_num, D5.out, O5.out⟩
      case measure => simp [intOf]; omega
    · obtain rfl : k = l.length := by omega
      rw [List.take_length] at D
      have hbl : (bts (joinF t l)).length = 32 := by rw [bts_len, joinF, digF_len]
      go_wp2_with fail
      with_reducible refine (dg_sum HR.out h0 D.out).mono ?_
      rintro e w5 ⟨rfl, hb5⟩
      have D5 := Lib.hid (D.out.below hb5)
      have O5 := Lib.hid (O.out.below hb5 O.out.lt)
      clear hb5 D O
      obtain ⟨J, hJ⟩ : ∃ J, joinF t l = J := ⟨_, rfl⟩
      have hJ' : digF (t :: catF l) = J := hJ
      have hJl : J.length = 32 := by rw [← hJ', digF_len]
      rw [hJ']
      rw [hJ] at hbl
      have HJ := Lib.hid hJ
      clear hJ hJ'
      go_wp2_with (refine wpList_puts (by rfl) 26 _ _ (by with_reducible rfl) go 0 (by rfl) (bts J) (by rfl) 26 (bts hash0) (by exact O5.out) 32 hbl (by rw [h0l]; omega) hi_hash bts_all ?_; intro w9 hb_ hm_ hz_; rw [put_hash0 _ hJl] at hb_; have HM9 := Lib.hid hm_; have HR9 := Lib.hid hb_; clear hb_ hm_ hz_)
      refine bodyPost_ret (results_cell_row rfl _ _ go 26 (bts J).toArray (0, 0) _ (by rfl) HR9.out Tryd.underlying26 rfl (by rw [hi_hash]; simp [hbl])) rfl ?_
      exact ⟨by rw [HJ.out], (D5.out.moves HM9.out hne hgw).b⟩
end Go.Proofs.YtdeikpifflkabaaDoor
