/- What this text proves: the contracts of the reference's Word, Hash and Text: the bytes of a field, in memory of the call's own. The conditions are that the field is one. -/
import Derived.Test.YtclnpglnomfjkaaDoorWire
import Derived.Test.YtclnpglnomfjkaaDoorAppendSl
import Derived.Deep.AppendLies
import Derived.Lib.AppendStr
namespace Go.Proofs.YtclnpglnomfjkaaDoor
open Go.RowKit Go.Shelf
set_option linter.unusedVariables false
set_option linter.unusedSimpArgs false

theorem strCells_bts (s : ByteArray) : Lib.strCells s = bts s.data.toList := by
  simp [Lib.strCells, bts]
theorem own_lit (w : World) (cs : Array Value) (n : Nat) (hn : cs.size = n) (hm : n ≤ maxLen) : (w.alloc (.cells cs 5)).ownsRow w.heap.size 5 1 (.slice (some ⟨w.heap.size, 0, none⟩) n n) n cs.toList :=
  ⟨by simp [hn], .inr ⟨w.heap.size, n, cs, rfl, Nat.le_refl _, heap_alloc_new w _, Nat.le_refl _, hm, by omega, by rw [Nat.mul_one, ← hn, ← Array.length_toList, List.take_length]⟩⟩
theorem own8_low {w : World} {B B' n : Nat} {v : Value} {xs : List Value} (h : w.ownsRow B 5 1 v n xs) (hb : B' ≤ B) : w.ownsRow B' 5 1 v n xs := by
  refine ⟨h.1, ?_⟩
  rcases h.2 with h | ⟨g, cap, cur, h1, h2, h3⟩
  · exact .inl h
  · exact .inr ⟨g, cap, cur, h1, Nat.le_trans hb h2, h3⟩

set_option maxRecDepth 100000 in
set_option maxHeartbeats 2000000 in
theorem rword_any (n : Nat) (ni : Int) (hni : ni = n) (w : World) (hn : n < 18446744073709551616) :
    Calls Tryd.prog 12 #[.int .u64 ni] w fun e w' => ∃ v, e = .returned v ∧ Own8 w' w.heap.size v (beB n 8) ∧ Below w.heap.size w w' := by
  subst hni
  obtain ⟨i0, hi, hz0, hz1, hz2⟩ := info_parts wu8_info
  go_enter Tryd.func12, Tryd.ntmps12
  obtain ⟨g0, hg0⟩ : ∃ x, w.heap.size = x := ⟨_, rfl⟩
  have HG := Lib.hid hg0
  clear hg0
  go_wp2_with fail
  go_loopw [3, 4] (fun v i wr => ∃ (k : Nat), k ≤ 8 ∧ i = .int .i64 (56 - 8 * (k : Int)) ∧ wr.ownsRow g0 5 1 v k (bts ((beB n 8).take k)) ∧ Below g0 w wr) (fun _ i _ => (intOf i + 8).toNat)
  case atStart => exact ⟨0, by omega, rfl, World.ownsRow_nil _ _ _ _, by rw [← HG.out]; exact Below.refl _ _⟩
  case round =>
    obtain ⟨k, hk, rfl, ho, hb⟩ := hrel
    have O := Lib.hid ho
    have L := Lib.hid hb
    have hsz := L.out.size
    rw [HG.out] at hsz
    clear ho hb
    by_cases hlt : k < 8
    · obtain ⟨s, hs⟩ : ∃ s, 8 * (8 - 1 - k) = s := ⟨_, rfl⟩
      have hsi : (56 : Int) - 8 * (k : Int) = (s : Int) := by omega
      have hs56 : s ≤ 56 := by omega
      have hs64 : (s : Int) ≤ 56 := by omega
      have HK : Hid (8 * (8 - 1 - k) = s ∧ k < 8) := Lib.hid ⟨hs, hlt⟩
      rw [hsi]
      have hcat : Hid (bts ((beB n 8).take k) ++ [.int .u8 ((n : Int) / 2 ^ s % 256)] = bts ((beB n 8).take (k + 1))) := Lib.hid (by
        rw [take_at (beB_at n 8 hlt), bts_app, hs]
        have e : (n : Int) / 2 ^ s % 256 = (((UInt8.ofNat (n / 2 ^ s % 256)).toNat : Nat) : Int) := by rw [u8_nat]; push_cast; rfl
        rw [e]; rfl)
      clear hs hsi
      have C1 := Lib.hid (World.news_of_block (cs := #[.int .u8 ((n : Int) / 2 ^ s % 256)]) (t := 5) (fr := (0, 0)) (heap_alloc_new wr _))
      go_wp2_with (refine wpList_append_lies (w := wr.alloc (.cells #[.int .u8 ((n : Int) / 2 ^ s % 256)] 5)) (by rfl) _ _ 26 (by rfl) g0 5 i0 _ 1 1 Tryd.underlying26 hi hz0 hz1 hz2 rfl (by omega) _ k (bts ((beB n 8).take k)) (by rfl) (O.out.alloc _) ⟨wr.heap.size, 0, none⟩ 1 1 [.int .u8 ((n : Int) / 2 ^ s % 256)] (by rfl) (by rfl) (by exact C1.out) (by simp [Value.oneCell']) (by omega) (by unfold maxLen; omega) (by omega) (by simp; omega) _ (by rfl) ?_; intro gg cap w3 hown2 hgrow hat hlt_)
      have L3 : Hid (Below g0 w w3) := Lib.hid ((L.out.alloc hsz _).grown hgrow (by simp; omega) (fun k hk => (own_cells O.out hk).1))
      have O3 : Hid (w3.ownsRow g0 5 1 (.slice (some ⟨gg, 0, none⟩) (k + 1) cap) (k + 1) (bts ((beB n 8).take (k + 1)))) := Lib.hid (by rw [← hcat.out]; exact hown2)
      clear hown2 hgrow hat hlt_ C1 O L
      go_roundw
      case rel => exact ⟨k + 1, by omega, by have := HK.out; congr 1; omega, O3.out, L3.out⟩
      case measure => have := HK.out; simp [intOf]; omega
    · obtain rfl : k = 8 := by omega
      have ho := O.out
      rw [List.take_of_length_le (by rw [beB_len]; omega)] at ho
      have HO := Lib.hid ho
      clear ho O
      rw [show (56 : Int) - 8 * ((8 : Nat) : Int) = -8 from rfl]
      go_wp2_with fail
      go_ret
      refine ⟨u3, rfl, ?_, by rw [HG.out]; exact L.out⟩
      unfold Own8
      rw [HG.out, beB_len]
      exact HO.out

set_option maxRecDepth 100000 in
set_option maxHeartbeats 2000000 in
theorem rhash_any (hs : List UInt8) (h32 : hs.length = 32) (w : World) :
    Calls Tryd.prog 15 #[.agg (bts hs).toArray] w fun e w' => ∃ v, e = .returned v ∧ Own8 w' w.heap.size v hs ∧ Below w.heap.size w w' := by
  obtain ⟨i0, hi, hz0, hz1, hz2⟩ := info_parts wu8_info
  have B0 := Lib.hid (Bk.new w 29 (bts hs).toArray)
  have L0 : Hid (Below w.heap.size w (w.alloc (.cells (bts hs).toArray 29))) := Lib.hid (by (first | assumption | (repeat (first | exact Below.refl _ _ | assumption | apply Below.drew | apply below_drewN | (refine Below.setCell ?_ (by (try simp) <;> omega) _) | (refine Below.alloc ?_ (by (try simp) <;> omega) _)))))
  obtain ⟨g0, hg0⟩ : ∃ x, w.heap.size = x := ⟨_, rfl⟩
  obtain ⟨w1, hw1⟩ : ∃ x, w.alloc (.cells (bts hs).toArray 29) = x := ⟨_, rfl⟩
  have HG := Lib.hid hg0
  rw [hg0, hw1] at B0 L0
  have HB1 : Hid (g0 + 1 ≤ w1.heap.size) := Lib.hid (by have := B0.out.lt; omega)
  go_enter Tryd.func15, Tryd.ntmps15
  go_upto_region 3 with fail
  clear hw1 hg0
  go_wp2_with fail
  go_loopw [3, 4] (fun v i wr => ∃ (k : Nat), k ≤ 32 ∧ i = .int .i64 k ∧ wr.ownsRow (g0 + 1) 5 1 v k (bts (hs.take k)) ∧ Below (g0 + 1) w1 wr) (fun _ i _ => 32 - (intOf i).toNat)
  case atStart => exact ⟨0, by omega, rfl, World.ownsRow_nil _ _ _ _, Below.refl _ _⟩
  case round =>
    obtain ⟨k, hk, rfl, ho, hb⟩ := hrel
    have O := Lib.hid ho
    have L := Lib.hid hb
    have hsz := Nat.le_trans HB1.out L.out.size
    clear ho hb
    by_cases hlt : k < 32
    · have hlt' : (k : Int) < 32 := by omega
      obtain ⟨c, hc⟩ : ∃ c, hs[k]? = some c := ⟨_, List.getElem?_eq_getElem (by omega)⟩
      have hcell : wr.cell? ⟨g0, k, none⟩ = some (.int .u8 (c.toNat : Int)) := by
        rw [(B0.out.below L.out (by omega)).cell k, List.getElem?_toArray]
        exact bts_at hc
      have hcat : Hid (bts (hs.take k) ++ [.int .u8 (c.toNat : Int)] = bts (hs.take (k + 1))) := Lib.hid (by rw [take_at hc, bts_app]; rfl)
      have HK : Hid (k < 32) := Lib.hid hlt
      clear hc
      have C1 := Lib.hid (World.news_of_block (cs := #[.int .u8 (c.toNat : Int)]) (t := 5) (fr := (0, 0)) (heap_alloc_new wr _))
      go_wp2_with (refine wpList_append_lies (w := wr.alloc (.cells #[.int .u8 (c.toNat : Int)] 5)) (by rfl) _ _ 26 (by rfl) (g0 + 1) 5 i0 _ 1 1 Tryd.underlying26 hi hz0 hz1 hz2 rfl (by omega) _ k (bts (hs.take k)) (by rfl) (O.out.alloc _) ⟨wr.heap.size, 0, none⟩ 1 1 [.int .u8 (c.toNat : Int)] (by rfl) (by rfl) (by exact C1.out) (by simp [Value.oneCell']) (by omega) (by unfold maxLen; omega) (by omega) (by simp; omega) _ (by rfl) ?_; intro gg cap w3 hown2 hgrow hat hlt_)
      have L3 : Hid (Below (g0 + 1) w1 w3) := Lib.hid ((L.out.alloc hsz _).grown hgrow (by simp; omega) (fun k hk => (own_cells O.out hk).1))
      have O3 : Hid (w3.ownsRow (g0 + 1) 5 1 (.slice (some ⟨gg, 0, none⟩) (k + 1) cap) (k + 1) (bts (hs.take (k + 1)))) := Lib.hid (by rw [← hcat.out]; exact hown2)
      clear hown2 hgrow hat hlt_ C1 O L hcell
      go_wp2_with fail
      go_roundw
      case rel => exact ⟨k + 1, by omega, by go_num, O3.out, L3.out⟩
      case measure => have := HK.out; simp [intOf]; omega
    · obtain rfl : k = 32 := by omega
      have ho := O.out
      rw [List.take_of_length_le (by omega)] at ho
      have HO := Lib.hid ho
      clear ho O
      go_wp2_with fail
      go_ret
      refine ⟨u3, rfl, ?_, ?_⟩
      · unfold Own8
        rw [HG.out, h32]
        exact Go.Proofs.YtclnpglnomfjkaaDoor.own8_low HO.out (by omega)
      · rw [HG.out]
        exact L0.out.trans (L.out.mono (by omega))

set_option maxRecDepth 100000 in
set_option maxHeartbeats 2000000 in
theorem rtext_any (s : ByteArray) (hs : s.size ≤ 4096) (w : World) :
    Calls Tryd.prog 17 #[.string s] w fun e w' => ∃ v, e = .returned v ∧ Own8 w' w.heap.size v (beB s.size 2 ++ s.data.toList) ∧ Below w.heap.size w w' := by
  obtain ⟨i0, hi, hz0, hz1, hz2⟩ := info_parts wu8_info
  obtain ⟨n, hn⟩ : ∃ n, s.size = n := ⟨_, rfl⟩
  have HN := Lib.hid hn
  have hn4 : n ≤ 4096 := by omega
  have HBE : Hid (bts (beB n 2) = [.int .u8 ((n : Int) / 256), .int .u8 ((n : Int) % 256)]) := Lib.hid (by
    have e : beB n 2 = [UInt8.ofNat (n / 256 % 256), UInt8.ofNat (n % 256)] := by simp [beB, List.range_succ]
    rw [e]
    simp only [bts, List.map_cons, List.map_nil, u8_nat]
    have : n / 256 % 256 = n / 256 := by omega
    rw [this]
    push_cast
    rfl)
  have O0 := Lib.hid (own_lit w #[.int .u8 ((n : Int) / 256), .int .u8 ((n : Int) % 256)] 2 rfl (by unfold maxLen; omega))
  have L0 : Hid (Below w.heap.size w (w.alloc (.cells #[.int .u8 ((n : Int) / 256), .int .u8 ((n : Int) % 256)] 5))) := Lib.hid (by (first | assumption | (repeat (first | exact Below.refl _ _ | assumption | apply Below.drew | apply below_drewN | (refine Below.setCell ?_ (by (try simp) <;> omega) _) | (refine Below.alloc ?_ (by (try simp) <;> omega) _)))))
  go_enter Tryd.func17, Tryd.ntmps17
  go_wp2_with (refine Lib.wpList_append_own_string (w := w.alloc (.cells #[.int .u8 ((n : Int) / 256), .int .u8 ((n : Int) % 256)] 5)) (by rfl) _ _ 26 9 (by rfl) w.heap.size 5 i0 Tryd.underlying26 Tryd.underlying9 hi hz0 hz1 hz2 (.slice (some ⟨w.heap.size, 0, none⟩) 2 2) 2 [.int .u8 ((n : Int) / 256), .int .u8 ((n : Int) % 256)] (by rfl) O0.out s (by rfl) (by unfold maxLen; omega) (by omega) (by simp) ?_; intro v2 w2 ho_ hg_ hz_; have HO := Lib.hid ho_; have HL : Hid (Below w.heap.size w w2) := Lib.hid (L0.out.grown hg_ (by simp) (fun k hk => (own_cells O0.out hk).1)); clear ho_ hg_ hz_)
  go_ret
  refine ⟨v2, rfl, ?_, HL.out⟩
  unfold Own8
  have := HO.out
  rw [HN.out] at this
  rw [bts_app, HBE.out, List.length_append, beB_len, show s.data.toList.length = n from HN.out]
  rw [strCells_bts] at this
  exact this
end Go.Proofs.YtclnpglnomfjkaaDoor
