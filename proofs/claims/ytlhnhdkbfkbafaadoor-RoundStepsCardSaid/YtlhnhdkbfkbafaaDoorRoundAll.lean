/- What this text proves: the contract of a height's method now, whole. The conditions are how the state lies in memory, and that hashes have 32 bytes. -/
import Derived.Test.YtlhnhdkbfkbafaaDoorNowA
import Derived.Test.YtlhnhdkbfkbafaaDoorNowB
import Derived.Test.YtlhnhdkbfkbafaaDoorNowC
import Derived.Test.YtlhnhdkbfkbafaaDoorNowD
namespace Go.Proofs.YtlhnhdkbfkbafaaDoor
open Go.RowKit
set_option linter.unusedVariables false

theorem now_any (gs : Nat) (s : St) (i : In) (w : World) (hs : s.good) (hi : i.fits) (hb : Bk w gs 25 s.cells.toArray) (hn : None0 w) (h0 : 0 < gs) (hr : 0 ≤ i.round ∧ i.round ≤ 1048576) :
    Calls Tryd.prog 19 #[.pointer (some ⟨gs, 0, none⟩), .agg i.cells.toArray] w (ToldF w gs (nowF s i)) := by
  by_cases s1 : s.step = 1
  · by_cases k2 : i.kind = 2
    · by_cases hl : s.lr < 0
      · exact now_k2T gs s i w hs hi hb hn h0 hr s1 k2 hl
      · exact now_k2F gs s i w hs hi hb hn h0 hr s1 k2 hl
    · by_cases k3 : i.kind = 3
      · by_cases hv : 0 ≤ i.valid
        · by_cases hw : i.valid < i.round
          · by_cases hl : s.lr ≤ i.valid
            · exact now_k3T gs s i w hs hi hb hn h0 hr s1 k3 hv hw hl
            · exact now_k3F gs s i w hs hi hb hn h0 hr s1 k3 hv hw hl
          · exact now_k3a gs s i w hs hi hb hn h0 hr s1 k3 hv hw
        · exact now_k3b gs s i w hs hi hb hn h0 hr s1 k3 hv
      · by_cases k10 : i.kind = 10
        · exact now_k10 gs s i w hs hi hb hn h0 hr s1 k10
        · exact now_late1 gs s i w hs hi hb hn h0 hr s1 k2 k3 k10
  · by_cases s2 : s.step = 2
    · by_cases k4 : i.kind = 4
      · by_cases hw : s.waits < i.round
        · exact now_k4w gs s i w hs hi hb hn h0 hr s2 k4 hw
        · exact now_k4l gs s i w hs hi hb hn h0 hr s2 k4 hw
      · by_cases k6 : i.kind = 6
        · exact now_k6 gs s i w hs hi hb hn h0 hr s2 k6
        · by_cases k11 : i.kind = 11
          · exact now_k11 gs s i w hs hi hb hn h0 hr s2 k11
          · exact now_lock2 gs s i w hs hi hb hn h0 hr s2 k4 k6 k11
    · by_cases s3 : s.step = 3
      · exact now_lock3 gs s i w hs hi hb hn h0 hr s3
      · by_cases hl : s.step < 1
        · exact now_low gs s i w hs hi hb hn h0 hr hl
        · exact now_high gs s i w hs hi hb hn h0 hr (by omega)
end Go.Proofs.YtlhnhdkbfkbafaaDoor
