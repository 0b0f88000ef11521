/- What this text proves: the contract of a height's step, whole. The conditions are that hashes have 32 bytes, and that the package's empty hash is empty. -/
import Derived.Test.YtlhnhdkbfkbafaaDoorStepA
import Derived.Test.YtlhnhdkbfkbafaaDoorStepB
import Derived.Test.YtlhnhdkbfkbafaaDoorStepC
import Derived.Test.YtlhnhdkbfkbafaaDoorStepD
namespace Go.Proofs.YtlhnhdkbfkbafaaDoor
open Go.RowKit
set_option linter.unusedVariables false

theorem step_any (s : St) (i : In) (w : World) (hs : s.good) (hi : i.fits) (hn : None0 w) :
    Calls Tryd.prog 10 #[.agg s.cells.toArray, .agg i.cells.toArray] w (StepTold w (stepF s i)) := by
  by_cases h1 : i.round < 0
  · exact stepL_a1 s i w hs hi hn h1
  by_cases h2 : 1048576 < i.round
  · exact stepL_a2 s i w hs hi hn h1 h2
  by_cases h3 : s.step = 4
  · exact stepL_a3 s i w hs hi hn h1 h2 h3
  by_cases k1 : i.kind = 1
  · by_cases hlt : s.round < i.round
    · exact stepL_b s i w hs hi hn h1 h2 h3 k1 hlt
    by_cases hr : i.round = s.round
    · exact stepL_e1 s i w hs hi hn h1 h2 h3 k1 hlt hr
    · exact stepL_f1 s i w hs hi hn h1 h2 h3 k1 hlt hr
  by_cases k9 : i.kind = 9
  · by_cases hlt : s.round < i.round
    · exact stepL_c s i w hs hi hn h1 h2 h3 k9 hlt
    by_cases hr : i.round = s.round
    · exact stepL_e9 s i w hs hi hn h1 h2 h3 k9 hlt hr
    · exact stepL_f9 s i w hs hi hn h1 h2 h3 k9 hlt hr
  by_cases k8 : i.kind = 8
  · by_cases hg : i.good = true
    · by_cases hbz : i.block = zeros
      · by_cases hr : i.round = s.round
        · exact stepL_e8z s i w hs hi hn h1 h2 h3 k8 hg hbz hr
        · exact stepL_f8z s i w hs hi hn h1 h2 h3 k8 hg hbz hr
      · exact stepL_d s i w hs hi hn h1 h2 h3 k8 hg hbz
    · rw [Bool.not_eq_true] at hg
      by_cases hr : i.round = s.round
      · exact stepL_e8g s i w hs hi hn h1 h2 h3 k8 hg hr
      · exact stepL_f8g s i w hs hi hn h1 h2 h3 k8 hg hr
  by_cases hr : i.round = s.round
  · exact stepL_eo s i w hs hi hn h1 h2 h3 k1 k9 k8 hr
  · exact stepL_fo s i w hs hi hn h1 h2 h3 k1 k9 k8 hr
end Go.Proofs.YtlhnhdkbfkbafaaDoor
