/- What this text proves: the contracts of the reference's Word, Hash and Text: the bytes of a field, in memory of the call's own. The conditions are that the field is one. -/
import Derived.Test.YthbkcjjpdhdidaaDoorWireS
import Derived.Test.YthbkcjjpdhdidaaDoorAppendSl
import Derived.Deep.AppendLies
import Derived.Lib.AppendStr
namespace Go.Proofs.YthbkcjjpdhdidaaDoor
open Go.RowKit Go.Shelf
set_option linter.unusedVariables false
set_option linter.unusedSimpArgs false

theorem strCells_bts (s : ByteArray) : Lib.strCells s = bts s.data.toList := by
  simp [Lib.strCells, bts]
theorem own_lit (w : World) (cs : Array Value) (n : Nat) (hn : cs.size = n) (hm : n ≤ maxLen) : (w.alloc (.cells cs 5)).ownsRow w.heap.size 5 1 (.slice (some ⟨w.heap.size, 0, none⟩) n n) n cs.toList :=
  ⟨by simp [hn], .inr ⟨w.heap.size, n, cs, rfl, Nat.le_refl _, heap_alloc_new w _, Nat.le_refl _, hm, by omega, by rw [Nat.mul_one, ← hn, ← Array.length_toList, List.take_length]⟩⟩
theorem own8_low {w : World} {B B' n : Nat} {v : Value} {xs : List Value} (h : w.ownsRow B 5 1 v n xs) (hb : B' ≤ B) : w.ownsRow B' 5 1 v n xs := by
  refine ⟨h.1, ?_⟩
  rcases h.2 with h | ⟨g, cap, cur, h1, h2, h3⟩
  · exact .inl h
  · exact .inr ⟨g, cap, cur, h1, Nat.le_trans hb h2, h3⟩

set_option maxRecDepth 100000 in
set_option maxHeartbeats 2000000 in
theorem rword_any (n : Nat) (ni : Int) (hni : ni = n) (w : World) (hn : n < 18446744073709551616) :
    Calls Tryd.prog 26 #[.int .u64 ni] w fun e w' => ∃ v, e = .returned v ∧ Own8 w' w.heap.size v (beB n 8) ∧ Below w.heap.size w w' := by
  subst hni
  obtain ⟨i0, hi, hz0, hz1, hz2⟩ := info_parts wu8_info
  go_enter Tryd.func26, Tryd.ntmps26
  obtain ⟨g0, hg0⟩ : ∃ x, w.heap.size = x := ⟨_, rfl⟩
  have HG := Lib.hid hg0
  clear hg0
  go_wp2_with fail
  go_loopw [3, 4] (fun v i wr => ∃ (k : Nat), k ≤ 8 ∧ i = .int .i64 (56 - 8 * (k : Int)) ∧ wr.ownsRow g0 5 1 v k (bts ((beB n 8).take k)) ∧ Below g0 w wr) (fun _ i _ => (intOf i + 8).toNat)
  case atStart => exact ⟨0, by omega, rfl, World.ownsRow_nil _ _ _ _, by rw [← HG.out]; exact Below.refl _ _⟩
  case round =>
    obtain ⟨k, hk, rfl, ho, hb⟩ := hrel
    have O := Lib.hid ho
    have L := Lib.hid hb
    have hsz := L.out.size
    rw [HG.out] at hsz
    clear ho hb
    by_cases hlt : k < 8
    · obtain ⟨s, hs⟩ : ∃ s, 8 * (8 - 1 - k) = s := ⟨_, rfl⟩
      have hsi : (56 : Int) - 8 * (k : Int) = (s : Int) := by omega
      have hs56 : s ≤ 56 := by omega
      have hs64 : (s : Int) ≤ 56 := by omega
      have HK : Hid (8 * (8 - 1 - k) = s ∧ k < 8) := Lib.hid ⟨hs, hlt⟩
      rw [hsi]
      have hcat : Hid (bts ((beB n 8).take k) ++ [.int .u8 ((n : Int) / 2 ^ s % 256)] = bts ((beB n 8).take (k + 1))) := Lib.hid (by
        rw [take_at (beB_at n 8 hlt), bts_app, hs]
        have e : (n : Int) / 2 ^ s % 256 = (((UInt8.ofNat (n / 2 ^ s % 256)).toNat : Nat) : Int) := by rw [u8_nat]; push_cast; rfl
        rw [e]; rfl)
      clear hs hsi
      have C1 := Lib.hid (World.news_of_block (cs := #[.int .u8 ((n : Int) / 2 ^ s % 256)]) (t := 5) (fr := (0, 0)) (heap_alloc_new wr _))
      go_wp2_with (refine wpList_append_lies (w := wr.alloc (.cells #[.int .u8 ((n : Int) / 2 ^ s % 256)] 5)) (by rfl) _ _ 42 (by rfl) g0 5 i0 _ 1 1 Tryd.underlying42 hi hz0 hz1 hz2 rfl (by omega) _ k (bts ((beB n 8).take k)) (by rfl) (O.out.alloc _) ⟨wr.heap.size, 0, none⟩ 1 1 [.int .u8 ((n : Int) / 2 ^ s % 256)] (by rfl) (by rfl) (by exact C1.out) (by simp [Value.oneCell']) (by omega) (by unfold maxLen; omega) (by omega) (by simp; omega) _ (by rfl) ?_; intro gg cap w3 hown2 hgrow hat hlt_)
      have L3 : Hid (Below g0 w w3) := Lib.hid ((L.out.alloc hsz _).grown hgrow (by simp; omega) (fun k hk => (own_cells O.out hk).1))
      have O3 : Hid (w3.ownsRow g0 5 1 (.slice (some ⟨gg, 0, none⟩) (k + 1) cap) (k + 1) (bts ((beB n 8).take (k + 1)))) := Lib.hid (by rw [← hcat.out]; exact hown2)
      clear hown2 hgrow hat hlt_ C1 O L
      go_roundw
      case rel => exact ⟨k + 1, by omega, by have := HK.out; congr 1; omega, O3.out, L3.out⟩
      case measure => have := HK.out; simp [intOf]; omega
    · obtain rfl : k = 8 := by omega
      have ho := O.out
      rw [List.take_of_length_le (by rw [beB_len]; omega)] at ho
      have HO := Lib.hid ho
      clear ho O
      rw [show (56 : Int) - 8 * ((8 : Nat) : Int) = -8 from rfl]
      go_wp2_with fail
      go_ret
      refine ⟨u3, rfl, ?_, by rw [HG.out]; exact L.out⟩
      unfold Own8
      rw [HG.out, beB_len]
      exact HO.out

end Go.Proofs.YthbkcjjpdhdidaaDoor
