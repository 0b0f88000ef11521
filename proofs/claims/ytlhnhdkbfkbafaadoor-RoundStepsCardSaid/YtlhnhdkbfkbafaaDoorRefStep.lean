/- What this text proves: the contract of the reference's step of a height. The conditions are that hashes have 32 bytes. -/
import Derived.Test.YtlhnhdkbfkbafaaDoorRStA
import Derived.Test.YtlhnhdkbfkbafaaDoorRStB
import Derived.Test.YtlhnhdkbfkbafaaDoorRStC
import Derived.Test.YtlhnhdkbfkbafaaDoorRStD
import Derived.Test.YtlhnhdkbfkbafaaDoorRStE
import Derived.Test.YtlhnhdkbfkbafaaDoorRStF
import Derived.Test.YtlhnhdkbfkbafaaDoorRStG
import Derived.Test.YtlhnhdkbfkbafaaDoorRStH
import Derived.Test.YtlhnhdkbfkbafaaDoorRStI
import Derived.Test.YtlhnhdkbfkbafaaDoorRStJ
import Derived.Test.YtlhnhdkbfkbafaaDoorRStK
import Derived.Test.YtlhnhdkbfkbafaaDoorRStL
namespace Go.Proofs.YtlhnhdkbfkbafaaDoor
open Go.RowKit
set_option linter.unusedVariables false
set_option linter.unusedSimpArgs false

theorem rstep_any (s : St) (i : In) (w : World) (hs : s.good) (hi : i.fits) :
    Calls Tryd.prog 11 #[.agg s.cells.toArray, .agg i.cells.toArray] w (RTold w (stepF s i)) := by
  by_cases h1 : i.round < 0
  · exact rstepL_a1 s i w hs hi h1
  by_cases h2 : 1048576 < i.round
  · exact rstepL_a2 s i w hs hi h1 h2
  by_cases h3 : s.step = 4
  · exact rstepL_a3 s i w hs hi h1 h2 h3
  by_cases k1 : i.kind = 1
  · by_cases hlt : s.round < i.round
    · by_cases ho : i.own = zeros
      · exact rstepL_l1a s i w hs hi h1 h2 h3 k1 hlt ho
      · by_cases hv : 0 ≤ s.vr
        · exact rstepL_l1b s i w hs hi h1 h2 h3 k1 hlt ho hv
        · exact rstepL_l1c s i w hs hi h1 h2 h3 k1 hlt ho (by omega)
    · exact rstepL_d1 s i w hs hi h1 h2 h3 k1 (by omega)
  by_cases k8 : i.kind = 8
  · by_cases hg : i.good = true
    · by_cases hbz : i.block = zeros
      · exact rstepL_d8z s i w hs hi h1 h2 h3 k8 hg hbz
      · exact rstepL_l8 s i w hs hi h1 h2 h3 k8 hg hbz
    · exact rstepL_d8n s i w hs hi h1 h2 h3 k8 (by simpa using hg)
  by_cases k9 : i.kind = 9
  · by_cases hlt : s.round < i.round
    · exact rstepL_l9 s i w hs hi h1 h2 h3 k9 hlt
    · exact rstepL_d9 s i w hs hi h1 h2 h3 k9 hlt
  by_cases k2 : i.kind = 2
  · by_cases hr : i.round = s.round
    · by_cases g0 : s.step = 1
      · by_cases hg : i.good = true
        · by_cases hbz : i.block = zeros
          · exact rstepL_l2b s i w hs hi h1 h2 h3 k2 hr g0 hg hbz
          · by_cases hl : s.lr < 0
            · exact rstepL_l2c s i w hs hi h1 h2 h3 k2 hr g0 hg hbz hl
            · exact rstepL_l2d s i w hs hi h1 h2 h3 k2 hr g0 hg hbz (by omega)
        · exact rstepL_l2a s i w hs hi h1 h2 h3 k2 hr g0 (by simpa using hg)
      · exact rstepL_d2a s i w hs hi h1 h2 h3 k2 hr g0
    · exact rstepL_d2x s i w hs hi h1 h2 h3 k2 hr
  by_cases k3 : i.kind = 3
  · by_cases hr : i.round = s.round
    · by_cases g0 : s.step = 1
      · by_cases v0 : 0 ≤ i.valid
        · by_cases v1 : i.valid < i.round
          · by_cases hg : i.good = true
            · by_cases hbz : i.block = zeros
              · exact rstepL_l3b s i w hs hi h1 h2 h3 k3 hr g0 v0 v1 hg hbz
              · by_cases hl : s.lr ≤ i.valid
                · exact rstepL_l3c s i w hs hi h1 h2 h3 k3 hr g0 v0 v1 hg hbz hl
                · exact rstepL_l3d s i w hs hi h1 h2 h3 k3 hr g0 v0 v1 hg hbz (by omega)
            · exact rstepL_l3a s i w hs hi h1 h2 h3 k3 hr g0 v0 v1 (by simpa using hg)
          · exact rstepL_d3c s i w hs hi h1 h2 h3 k3 hr g0 v0 v1
        · exact rstepL_d3b s i w hs hi h1 h2 h3 k3 hr g0 v0
      · exact rstepL_d3a s i w hs hi h1 h2 h3 k3 hr g0
    · exact rstepL_d3x s i w hs hi h1 h2 h3 k3 hr
  by_cases k4 : i.kind = 4
  · by_cases hr : i.round = s.round
    · by_cases g0 : s.step = 2
      · by_cases g1 : s.waits < i.round
        · exact rstepL_l4 s i w hs hi h1 h2 h3 k4 hr g0 g1
        · exact rstepL_d4b s i w hs hi h1 h2 h3 k4 hr g0 g1
      · exact rstepL_d4a s i w hs hi h1 h2 h3 k4 hr g0
    · exact rstepL_d4x s i w hs hi h1 h2 h3 k4 hr
  by_cases k5 : i.kind = 5
  · by_cases hr : i.round = s.round
    · by_cases g0 : s.step = 2
      · by_cases hg : i.good = true
        · by_cases hbz : i.block = zeros
          · exact rstepL_d5z2 s i w hs hi h1 h2 h3 k5 hr g0 hg hbz
          · by_cases g1 : s.vr < i.round
            · exact rstepL_l5a s i w hs hi h1 h2 h3 k5 hr g0 hg hbz g1
            · exact rstepL_d5v2 s i w hs hi h1 h2 h3 k5 hr g0 hg hbz (by omega)
        · exact rstepL_d5n2 s i w hs hi h1 h2 h3 k5 hr g0 (by simpa using hg)
      · by_cases g3 : s.step = 3
        · by_cases hg : i.good = true
          · by_cases hbz : i.block = zeros
            · exact rstepL_d5z3 s i w hs hi h1 h2 h3 k5 hr g0 g3 hg hbz
            · by_cases g1 : s.vr < i.round
              · exact rstepL_l5b s i w hs hi h1 h2 h3 k5 hr g0 g3 hg hbz g1
              · exact rstepL_d5v3 s i w hs hi h1 h2 h3 k5 hr g0 g3 hg hbz (by omega)
          · exact rstepL_d5n3 s i w hs hi h1 h2 h3 k5 hr g0 g3 (by simpa using hg)
        · exact rstepL_d5a s i w hs hi h1 h2 h3 k5 hr g0 g3
    · exact rstepL_d5x s i w hs hi h1 h2 h3 k5 hr
  by_cases k6 : i.kind = 6
  · by_cases hr : i.round = s.round
    · by_cases g0 : s.step = 2
      · exact rstepL_l6 s i w hs hi h1 h2 h3 k6 hr g0
      · exact rstepL_d6a s i w hs hi h1 h2 h3 k6 hr g0
    · exact rstepL_d6x s i w hs hi h1 h2 h3 k6 hr
  by_cases k11 : i.kind = 11
  · by_cases hr : i.round = s.round
    · by_cases g0 : s.step = 2
      · exact rstepL_l11 s i w hs hi h1 h2 h3 k11 hr g0
      · exact rstepL_d11a s i w hs hi h1 h2 h3 k11 hr g0
    · exact rstepL_d11x s i w hs hi h1 h2 h3 k11 hr
  by_cases k7 : i.kind = 7
  · by_cases hr : i.round = s.round
    · by_cases g0 : 1 ≤ s.step
      · by_cases g1 : s.step ≤ 3
        · by_cases g2 : s.waited < i.round
          · exact rstepL_l7 s i w hs hi h1 h2 h3 k7 hr g0 g1 g2
          · exact rstepL_d7c s i w hs hi h1 h2 h3 k7 hr g0 g1 g2
        · exact rstepL_d7b s i w hs hi h1 h2 h3 k7 hr g0 g1
      · exact rstepL_d7a s i w hs hi h1 h2 h3 k7 hr g0
    · exact rstepL_d7x s i w hs hi h1 h2 h3 k7 hr
  by_cases k10 : i.kind = 10
  · by_cases hr : i.round = s.round
    · by_cases g0 : s.step = 1
      · exact rstepL_l10 s i w hs hi h1 h2 h3 k10 hr g0
      · exact rstepL_d10a s i w hs hi h1 h2 h3 k10 hr g0
    · exact rstepL_d10x s i w hs hi h1 h2 h3 k10 hr
  by_cases k12 : i.kind = 12
  · by_cases hr : i.round = s.round
    · by_cases g0 : 1 ≤ s.step
      · by_cases g1 : s.step ≤ 3
        · by_cases g2 : i.round < 1048576
          · exact rstepL_l12 s i w hs hi h1 h2 h3 k12 hr g0 g1 g2
          · exact rstepL_d12c s i w hs hi h1 h2 h3 k12 hr g0 g1 g2
        · exact rstepL_d12b s i w hs hi h1 h2 h3 k12 hr g0 g1
      · exact rstepL_d12a s i w hs hi h1 h2 h3 k12 hr g0
    · exact rstepL_d12x s i w hs hi h1 h2 h3 k12 hr
  exact rstepL_do s i w hs hi h1 h2 h3 k1 k2 k3 k4 k5 k6 k7 k8 k9 k10 k11 k12
end Go.Proofs.YtlhnhdkbfkbafaaDoor
