/- What this text proves: the contract of the iterator over a slice of slices of bytes (slices.Values). The conditions are how the slices lie in memory. -/
import Derived.Test.YtpmmojjffjpmbaaDoorWalOpen
namespace Go.Proofs.YtpmmojjffjpmbaaDoor
open Go.RowKit Go.Shelf
set_option linter.unusedVariables false
set_option linter.unusedSimpArgs false
attribute [local go_sem] Oper.semAt_some wide_fn wide_depth

def PGood (W : World) (n₀ : Nat) (p : Part) : Prop := p.2.2.length ≤ p.2.1 ∧ p.2.1 ≤ maxLen ∧ Sl W n₀ 1 p.1 p.2.2.length (bts p.2.2)
theorem PGood.keepX {n₀ bx : Nat} {W W' : World} {p : Part} (h : PGood W n₀ p) (hk : KeepX n₀ bx W W') : PGood W' n₀ p := ⟨h.1, h.2.1, h.2.2.keepX hk⟩
theorem PGood.below {n₀ B : Nat} {W W' : World} {p : Part} (h : PGood W n₀ p) (hb : Below B W W') (hB : n₀ ≤ B) : PGood W' n₀ p := ⟨h.1, h.2.1, h.2.2.below (hb.mono hB)⟩

set_option maxRecDepth 100000 in
set_option maxHeartbeats 4000000 in
theorem values_seq (n n₀ bx c : Nat) (A : Option Addr) (l : List Part) (w : World) (hn₀ : n₀ ≤ w.heap.size) (hbx : Bk w bx 24 #[.slice A l.length c]) (hs : Sl w n₀ 1 A l.length (l.map slv)) (hg : ∀ p ∈ l, PGood w n₀ p) (hl : l.length ≤ 1000000) :
    SeqY n Tryd.prog 37 #[.pointer (some ⟨bx, 0, none⟩)] (fun p => #[slv p]) (fun _ _ => False) (KeepX n₀ bx) (fun p W => PGood W n₀ p) (fun xs => xs = l) (fun pre => ∃ k, k ≤ l.length ∧ pre = l.take k) (fun _ => True) w := by
  intro L J Jx W hm hL1 hL2 hJ hJx hBd hY h0J
  have hkw : KeepX n₀ bx w W := KeepX.moves hm (fun _ _ h => h.elim)
  have hbW := hm.bk hbx (fun h => h)
  have hcb : W.cell? ⟨bx, 0, none⟩ = some (.slice A l.length c) := hbW.cell 0
  have HS := Lib.hid (hs.keepX hkw)
  have HG := Lib.hid (fun p hp => (hg p hp).keepX hkw)
  have HJ := Lib.hid h0J
  have HY := Lib.hid hY
  clear hs hg h0J hY hbx hkw hbW hJ hJx hBd hm
  refine callsIn_of_wp Tryd.func37 rfl trivial ?_ rfl
  simp only [Tryd.ntmps37, List.size_toArray, List.length_cons, List.length_nil, Nat.reduceAdd, Nat.reduceSub, Array.replicate_succ, Array.replicate_zero, List.push_toArray, List.append_toArray, List.nil_append, List.cons_append]
  gi_wp2_with fail
  gi_loopw [7] (fun i wr => ∃ k : Nat, k ≤ l.length ∧ i = .int .i64 k ∧ J (l.take k) wr ∧ Sl wr n₀ 1 A l.length (l.map slv) ∧ ∀ p ∈ l, PGood wr n₀ p) (fun i _ => l.length - (intOf i).toNat)
  case atStart => exact ⟨0, by omega, rfl, HJ.out, HS.out, HG.out⟩
  case round =>
    obtain ⟨k, hk, rfl, hj, hs, hg⟩ := hrel
    clear HJ HS HG hcb
    by_cases hlt : k < l.length
    · have e1 : decide ((k : Int) < (l.length : Int)) = true := by simp; omega
      obtain ⟨p, hp⟩ : ∃ p, l[k]? = some p := ⟨_, List.getElem?_eq_getElem hlt⟩
      obtain ⟨b, off, rfl, hb, hcc⟩ := hs.at_ (by omega)
      have hck : wr.cell? ⟨b, off + k, none⟩ = some (slv p) := hcc k (slv p) (by rw [List.getElem?_map, hp]; rfl)
      have htk := take_at hp
      obtain ⟨fn, tmps, asg, bdy, hy, hR⟩ := HY.out (l.take k) p wr hj ⟨k + 1, by omega, htk.symm⟩ (hg p (List.mem_of_getElem? hp))
      rw [← htk] at hR
      have HS := Lib.hid hs
      have HG := Lib.hid hg
      obtain ⟨pa, pc, pl⟩ := p
      simp only [slv] at hck hy
      clear hs hg hj hcc hp htk
      gi_wp2_with fail
      refine hR.mono ?_
      rintro e W3 (⟨rfl, hJ3, hk3⟩ | ⟨rfl, hJx3⟩)
      · gi_wp2_with fail
        go_roundw
        case rel => exact ⟨k + 1, by omega, by go_num, hJ3, HS.out.keepX hk3, fun p hp => (HG.out p hp).keepX hk3⟩
        case measure => simp [intOf]; omega
      · gi_wp2_with fail
        refine bodyPost_ret (results_none rfl _ _ _) rfl ?_
        exact ⟨⟨_, rfl⟩, .inr ⟨_, ⟨k + 1, by omega, rfl⟩, hJx3⟩⟩
    · obtain rfl : k = l.length := by omega
      have e1 : decide ((l.length : Int) < (l.length : Int)) = false := by simp
      rw [List.take_length] at hj
      have HJ := Lib.hid hj
      clear hj hs hg
      gi_wp2_with fail
      refine bodyPost_end (results_none rfl _ _ _) rfl ?_
      exact ⟨⟨_, rfl⟩, .inl ⟨l, rfl, HJ.out⟩⟩

theorem values_make (A : Option Addr) (n c : Nat) (w : World) :
    Calls Tryd.prog 30 #[.slice A n c] w fun e w' => e = .returned (.func (.func 37) #[] #[.pointer (some ⟨w.heap.size, 0, none⟩)]) ∧ w.alloc (.cells #[.slice A n c] 24) = w' := by
  go_enter Tryd.func30, Tryd.ntmps30
  go_wp2
  go_ret
  exact ⟨rfl, rfl⟩
end Go.Proofs.YtpmmojjffjpmbaaDoor
