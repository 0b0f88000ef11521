/- What this text proves: the contracts of both words: a number's eight bytes. The condition is that the number fits. -/
import Derived.Test.YtcnmoallgfdomaaDoorBlakeOwn
import Derived.Deep.AppendLies
namespace Go.Proofs.YtcnmoallgfdomaaDoor
open Go.RowKit
set_option linter.unusedVariables false
set_option linter.unusedSimpArgs false

def byteAt (n i : Nat) : UInt8 := UInt8.ofNat (n / 2 ^ (56 - 8 * i) % 256)
def wordB (n : Nat) : List UInt8 := (List.range 8).map (byteAt n)
theorem wordB_len (n : Nat) : (wordB n).length = 8 := by simp [wordB]
theorem wordB_at (n : Nat) {i : Nat} (hi : i < 8) : (wordB n)[i]? = some (byteAt n i) := by simp [wordB, hi]
theorem byteAt_nat (n i : Nat) : (byteAt n i).toNat = n / 2 ^ (56 - 8 * i) % 256 := by
  unfold byteAt
  rw [UInt8.toNat_ofNat']
  omega
theorem zero_w8 (w : World) : (zeroValue 52).run Tryd.prog w = .ok (.agg (bts (List.replicate 8 0)).toArray) w := by
  have h : (Tryd.prog.info? 52).map (·.zero) = some (some (.agg (bts (List.replicate 8 0)).toArray)) := by kernel_rfl
  cases hq : Tryd.prog.info? 52 with
  | none => rw [hq] at h; cases h
  | some i =>
    rw [hq] at h
    have h2 : i.zero = some (.agg (bts (List.replicate 8 0)).toArray) := by simpa using h
    simp [zeroValue, typeInfo, hq, h2, Sem.run_bind]
def z8B : List UInt8 := List.replicate 8 0
theorem zero_wB (w : World) : (zeroValue 52).run Tryd.prog w = .ok (.agg (bts z8B).toArray) w := zero_w8 w
theorem word_list {n : Nat} {l : List UInt8} (hl : l.length = 8) (h : ∀ j, j < 8 → l[j]? = some (byteAt n j)) : l = wordB n := by
  apply List.ext_getElem?
  intro j
  by_cases hj : j < 8
  · rw [h j hj, wordB_at n hj]
  · rw [List.getElem?_eq_none (by omega), List.getElem?_eq_none (by rw [wordB_len]; omega)]

set_option maxRecDepth 100000 in
set_option maxHeartbeats 2000000 in
theorem word_any (n : Nat) (w : World) (hn : n < 18446744073709551616) :
    Calls Tryd.prog 22 #[.int .u64 n] w fun e w' => ∃ g, e = .returned (.slice (some ⟨g, 0, none⟩) 8 8) ∧ Part.good w' (some ⟨g, 0, none⟩, 8, wordB n) ∧ Below w.heap.size w w' := by
  have hz := zero_wB
  go_enter Tryd.func22, Tryd.ntmps22
  go_upto_region 2 with fail
  have F0 := Lib.hid (Bk.new w 52 (bts z8B).toArray)
  have L0 : Hid (Below w.heap.size w (w.alloc (.cells (bts z8B).toArray 52))) := Lib.hid (by (first | assumption | (repeat (first | exact Below.refl _ _ | assumption | apply Below.drew | apply below_drewN | (refine Below.setCell ?_ (by (try simp) <;> omega) _) | (refine Below.alloc ?_ (by (try simp) <;> omega) _)))))
  obtain ⟨go, hgo⟩ : ∃ x, w.heap.size = x := ⟨_, rfl⟩
  obtain ⟨w1, hw1⟩ : ∃ x, w.alloc (.cells (bts z8B).toArray 52) = x := ⟨_, rfl⟩
  have HGO := Lib.hid hgo
  rw [hw1] at F0 L0 ⊢
  rw [hgo] at F0 L0 ⊢
  clear hw1 hgo hz
  go_wp2_with fail
  go_loopw [5] (fun i wr => ∃ (k : Nat) (l : List UInt8), k ≤ 8 ∧ i = .int .i64 k ∧ l.length = 8 ∧ (∀ j, j < k → l[j]? = some (byteAt n j)) ∧ Bk wr go 52 (bts l).toArray ∧ Below go w wr) (fun i _ => 8 - (intOf i).toNat)
  case atStart => exact ⟨0, z8B, by omega, rfl, by decide, fun j hj => by omega, F0.out, L0.out⟩
  case round =>
    obtain ⟨k, l, hk, rfl, hll, hpre, hb, hbel⟩ := hrel
    have HPRE := Lib.hid hpre
    have HB := Lib.hid hb
    have HL := Lib.hid hbel
    clear hpre hb hbel F0 L0
    by_cases hlt : k < 8
    · have hlt' : (k : Int) < 8 := by omega
      have cb : ∃ v, wr.cell? ⟨go, k, none⟩ = some v := ⟨_, by rw [HB.out.cell, List.getElem?_toArray]; exact List.getElem?_eq_getElem (by rw [bts_len, hll]; exact hlt)⟩
      obtain ⟨vb, hvb⟩ := cb
      have fz := HB.out.frozen k
      obtain ⟨s, hs⟩ : ∃ s, 56 - 8 * k = s := ⟨_, rfl⟩
      have hsi : (56 : Int) - 8 * (k : Int) = (s : Int) := by omega
      have hs56 : s ≤ 56 := by omega
      have hs64 : (s : Int) ≤ 56 := by omega
      have HV : Hid ((byteAt n k).toNat = n / 2 ^ s % 256) := Lib.hid (by rw [byteAt_nat, hs])
      clear hs
      go_wp2_with fail
      go_roundw
      case rel =>
        have e : (n : Int) / 2 ^ s % 256 = ((byteAt n k).toNat : Int) := by rw [HV.out]; push_cast; rfl
        rw [e]
        have hm : Moves (fun g _ => g = go) wr (wr.setCell ⟨go, k, none⟩ (.int .u8 ((byteAt n k).toNat : Int))) := Moves.setCell _ _ _ (fun _ _ => rfl)
        refine ⟨k + 1, l.set k (byteAt n k), by omega, by go_num, by simp [hll], fun j hj => ?_, HB.out.set_u8 k (byteAt n k), HL.out.setCell (by simp) _⟩
        by_cases e : j = k
        · subst e
          rw [List.getElem?_set_self (by omega)]
        · rw [List.getElem?_set_ne (by omega)]
          exact HPRE.out j (by omega)
      case measure => simp [intOf]; omega
    · obtain rfl : k = 8 := by omega
      go_wp2_with fail
      go_ret
      have hfin : l = wordB n := word_list hll HPRE.out
      subst hfin
      refine ⟨go, rfl, ⟨by rw [wordB_len]; omega, by show 8 ≤ maxLen; unfold maxLen; omega, ⟨by rw [wordB_len, bts_len, wordB_len], fun _ => ⟨go, 0, rfl, HB.out.lt, fun j u hu => by rw [Nat.zero_add, HB.out.cell, List.getElem?_toArray]; exact hu⟩⟩⟩, ?_⟩
      rw [HGO.out]
      exact HL.out

set_option maxRecDepth 100000 in
set_option maxHeartbeats 2000000 in
theorem rword_any (n : Nat) (w : World) (hn : n < 18446744073709551616) :
    Calls Tryd.prog 26 #[.int .u64 n] w fun e w' => ∃ g c, e = .returned (.slice (some ⟨g, 0, none⟩) 8 c) ∧ Part.good w' (some ⟨g, 0, none⟩, c, wordB n) ∧ Below w.heap.size w w' := by
  obtain ⟨i0, hi, hz0, hz1, hz2⟩ := info_parts u8_info
  go_enter Tryd.func26, Tryd.ntmps26
  obtain ⟨g0, hg0⟩ : ∃ x, w.heap.size = x := ⟨_, rfl⟩
  have HG := Lib.hid hg0
  clear hg0
  go_wp2_with fail
  go_loopw [3, 4] (fun v i wr => ∃ (k : Nat), k ≤ 8 ∧ i = .int .i64 (56 - 8 * (k : Int)) ∧ wr.ownsRow g0 5 1 v k (bts ((wordB n).take k)) ∧ Below g0 w wr) (fun _ i _ => (intOf i + 8).toNat)
  case atStart => exact ⟨0, by omega, rfl, World.ownsRow_nil _ _ _ _, by rw [← HG.out]; exact Below.refl _ _⟩
  case round =>
    obtain ⟨k, hk, rfl, ho, hb⟩ := hrel
    have O := Lib.hid ho
    have L := Lib.hid hb
    have hsz := L.out.size
    rw [HG.out] at hsz
    clear ho hb
    by_cases hlt : k < 8
    · obtain ⟨s, hs⟩ : ∃ s, 56 - 8 * k = s := ⟨_, rfl⟩
      have hsi : (56 : Int) - 8 * (k : Int) = (s : Int) := by omega
      have hs56 : s ≤ 56 := by omega
      have hs64 : (s : Int) ≤ 56 := by omega
      have HV : Hid ((byteAt n k).toNat = n / 2 ^ s % 256) := Lib.hid (by rw [byteAt_nat, hs])
      have HK : Hid (56 - 8 * k = s ∧ k < 8) := Lib.hid ⟨hs, hlt⟩
      rw [hsi]
      have hcat : Hid (bts ((wordB n).take k) ++ [.int .u8 ((n : Int) / 2 ^ s % 256)] = bts ((wordB n).take (k + 1))) := Lib.hid (by
        rw [take_at (wordB_at n hlt), bts_app]
        have e : (n : Int) / 2 ^ s % 256 = ((byteAt n k).toNat : Int) := by rw [HV.out]; push_cast; rfl
        rw [e]; rfl)
      clear hs hsi
      have C1 := Lib.hid (World.news_of_block (cs := #[.int .u8 ((n : Int) / 2 ^ s % 256)]) (t := 5) (fr := (0, 0)) (heap_alloc_new wr _))
      go_wp2_with (refine wpList_append_lies (w := wr.alloc (.cells #[.int .u8 ((n : Int) / 2 ^ s % 256)] 5)) (by rfl) _ _ 23 (by rfl) g0 5 i0 _ 1 1 Tryd.underlying23 hi hz0 hz1 hz2 rfl (by omega) _ k (bts ((wordB n).take k)) (by rfl) (O.out.alloc _) ⟨wr.heap.size, 0, none⟩ 1 1 [.int .u8 ((n : Int) / 2 ^ s % 256)] (by rfl) (by rfl) (by exact C1.out) (by simp [Value.oneCell']) (by omega) (by unfold maxLen; omega) (by omega) (by simp; omega) _ (by rfl) ?_; intro gg cap w3 hown2 hgrow hat hlt_)
      have L3 : Hid (Below g0 w w3) := Lib.hid ((L.out.alloc hsz _).grown hgrow (by simp; omega) (fun k hk => (own_cells O.out hk).1))
      have O3 : Hid (w3.ownsRow g0 5 1 (.slice (some ⟨gg, 0, none⟩) (k + 1) cap) (k + 1) (bts ((wordB n).take (k + 1)))) := Lib.hid (by rw [← hcat.out]; exact hown2)
      clear hown2 hgrow hat hlt_ C1 O L
      go_roundw
      case rel => exact ⟨k + 1, by omega, by have := HK.out; congr 1; omega, O3.out, L3.out⟩
      case measure => have := HK.out; simp [intOf]; omega
    · obtain rfl : k = 8 := by omega
      have ho := O.out
      rw [List.take_of_length_le (by rw [wordB_len]; omega)] at ho
      obtain ⟨g, c, rfl, hg, hg2⟩ := ho.form (by omega)
      have hc : 8 ≤ c ∧ c ≤ maxLen := by
        obtain ⟨A', c', e, h1, h2, _⟩ := own_sl ho
        injection e with e1 e2 e3
        subst e3
        exact ⟨h1, h2⟩
      have SL := own_sl_at ho
      have HS := Lib.hid SL
      have HC := Lib.hid hc
      clear ho SL hc O
      rw [show (56 : Int) - 8 * ((8 : Nat) : Int) = -8 from rfl]
      go_wp2_with fail
      go_ret
      refine ⟨g, c, rfl, ⟨by rw [wordB_len]; exact HC.out.1, HC.out.2, by rw [wordB_len]; exact HS.out⟩, ?_⟩
      rw [HG.out]
      exact L.out
end Go.Proofs.YtcnmoallgfdomaaDoor
