/- What this text proves: the contract of the reference's Frames. The conditions are how the bytes lie in memory. -/
import Derived.Test.YtpmmojjffjpmbaaDoorWalRef
namespace Go.Proofs.YtpmmojjffjpmbaaDoor
open Go.RowKit
set_option linter.unusedVariables false
set_option linter.unusedSimpArgs false

theorem framesF_len_le : ∀ l : List Part, (∀ p ∈ l, p.2.2.length ≤ 4096) → (framesF ckW (l.map dat)).length ≤ l.length * 4102
  | [], _ => by simp [framesF]
  | p :: l, h => by
    have h1 := framesF_len_le l (fun q hq => h q (by simp [hq]))
    have h2 := h p (by simp)
    rw [List.map_cons, framesF_cons, List.length_append, frameF_len ckW_len]
    simp only [dat, List.length_cons] at h1 h2 ⊢
    omega

set_option maxRecDepth 100000 in
set_option maxHeartbeats 4000000 in
theorem rframes_any (A : Option Addr) (l : List Part) (a c : Nat) (hla : l.length = a) (w : World) (ha : a ≤ 1000000) (hA : Sl w w.heap.size 1 A a (l.map slv)) (hg : ∀ p ∈ l, p.good w) (hr : ∀ p ∈ l, p.2.2.length ≤ 4096) :
    Calls Tryd.prog 24 #[.slice A a c] w fun e w' => ∃ v, e = .returned v ∧ w'.ownsRow w.heap.size 5 1 v (framesF ckW (l.map dat)).length (bts (framesF ckW (l.map dat))) ∧ Below w.heap.size w w' := by
  obtain ⟨i0, hi, hz0, hz1, hz2⟩ := info_parts u8_info
  have HA := Lib.hid hA
  have HG := Lib.hid hg
  have HR := Lib.hid hr
  have HLA := Lib.hid hla
  clear hA hg hr hla
  go_enter Tryd.func24, Tryd.ntmps24
  go_wp2_with fail
  go_loopw [3, 4] (fun v i wr => ∃ k : Nat, k ≤ a ∧ i = .int .i64 k ∧ wr.ownsRow w.heap.size 5 1 v (framesF ckW ((l.take k).map dat)).length (bts (framesF ckW ((l.take k).map dat))) ∧ Below w.heap.size w wr) (fun _ i _ => a - (intOf i).toNat)
  case atStart => exact ⟨0, by omega, rfl, World.ownsRow_nil _ _ _ _, Below.refl _ _⟩
  case round =>
    obtain ⟨k, hk, rfl, ho, hbl⟩ := hrel
    have HO := Lib.hid ho
    have HB := Lib.hid hbl
    have hz := hbl.size
    clear ho hbl
    by_cases hlt : k < a
    · have e1 : decide ((k : Int) < (a : Int)) = true := by simp; omega
      have k2 : (k : Int) < (a : Int) := by omega
      obtain ⟨p, hp⟩ : ∃ p, l[k]? = some p := ⟨_, List.getElem?_eq_getElem (by have := HLA.out; omega)⟩
      obtain ⟨b1, o1, rfl, hb1, hc1⟩ := HA.out.at_ (by omega)
      have d1 : wr.cell? ⟨b1, o1 + k, none⟩ = some (slv p) := (HB.out.cell (p := ⟨b1, o1 + k, none⟩) hb1).trans (hc1 k (slv p) (by rw [List.getElem?_map, hp]; rfl))
      have hgp := (HG.out p (List.mem_of_getElem? hp)).below HB.out
      have hrp := HR.out p (List.mem_of_getElem? hp)
      have htp := take_at hp
      have hfl := framesF_len_le (l.take k) (fun q hq => HR.out q (List.mem_of_mem_take hq))
      have hfl2 : (framesF ckW ((l.take k).map dat)).length ≤ 1000000 * 4102 := Nat.le_trans hfl (Nat.mul_le_mul_right _ (by rw [List.length_take]; omega))
      obtain ⟨pa, pc, pl⟩ := p
      simp only [slv] at d1 hgp hrp
      have HTP : Hid (framesF ckW ((l.take (k + 1)).map dat) = framesF ckW ((l.take k).map dat) ++ frameF ckW pl) := Lib.hid (by rw [htp, List.map_append, framesF_append]; simp [framesF, dat])
      obtain ⟨F, hF⟩ : ∃ F, framesF ckW ((l.take k).map dat) = F := ⟨_, rfl⟩
      rw [hF] at HTP HO hfl2
      obtain ⟨m, hm⟩ : ∃ m, F.length = m := ⟨_, rfl⟩
      rw [hm] at HO hfl2
      have HM := Lib.hid hm
      have HGP := Lib.hid hgp
      clear hc1 htp hp hfl hF hm hgp
      go_wp2_with fail
      with_reducible refine (rframe_any pa pl pc wr hrp HGP.out).mono ?_
      rintro e w2 ⟨v2, rfl, ho2, hb2⟩
      obtain ⟨A2, c2, rfl, h21, h22, hs2⟩ := own_sl ho2
      have O2 := Lib.hid (own_bl HO.out hb2)
      have S2 := Lib.hid hs2
      have B2 := Lib.hid hb2
      have z2 := hb2.size
      clear ho2 hs2 hb2 HO HGP
      go_wp2_with (at_builtin; refine wpList_append_sl w2 (by rfl) _ _ 22 (by rfl) w.heap.size 5 i0 _ 1 1 Tryd.underlying22 hi hz0 hz1 hz2 rfl (by omega) _ m (bts F) (by rfl) O2.out A2 (6 + pl.length) c2 (bts (frameF ckW pl)) (by rfl) S2.out bts_one (by unfold maxLen; omega) (by omega) (by omega) ?_; intro v3 w3 ho_ hg_ hv_; have P3 := Lib.hid ho_; have L3 : Hid (Below w.heap.size wr w3) := Lib.hid ((B2.out.mono hz).grown hg_ (by omega) (fun k hk => (own_cells O2.out hk).1)); clear ho_ hg_ hv_)
      go_roundw
      case rel =>
        refine ⟨k + 1, by omega, by go_num, ?_, HB.out.trans L3.out⟩
        rw [HTP.out, List.length_append, bts_app, HM.out, frameF_len ckW_len]
        exact P3.out
      case measure => simp [intOf]; omega
    · obtain rfl : k = a := by omega
      have e1 : decide ((k : Int) < (k : Int)) = false := by simp
      have ho := HO.out
      rw [List.take_of_length_le (by rw [HLA.out]; exact Nat.le_refl _)] at ho
      have HO2 := Lib.hid ho
      clear ho HO
      go_wp2_with fail
      go_ret
      exact ⟨_, rfl, HO2.out, HB.out⟩
end Go.Proofs.YtpmmojjffjpmbaaDoor
