import Derived.Test.YtajekdeommaceaaXLA
import Derived.Test.YtajekdeommaceaaXL6n1
import Derived.Test.YtajekdeommaceaaXL6n2
import Derived.Test.YtajekdeommaceaaXL6n3
import Derived.Test.YtajekdeommaceaaXL6n4
import Derived.Test.YtajekdeommaceaaXL6n5
import Derived.Test.YtajekdeommaceaaXL6n8
namespace Go.Eng.T
open Go.Proofs Go.Eng
set_option maxRecDepth 100000
set_option maxHeartbeats 0

theorem lt6 {r : Int} (h0 : 0 ≤ r) (h : r < 6 ∨ r = 0) : r = 0 ∨ r = 1 ∨ r = 2 ∨ r = 3 ∨ r = 4 ∨ r = 5 := by omega

theorem lat.ac : LatDraws := by
  intro D k p s hk hc K hK
  refine ac_body { imm := fun f => bif Nat.beq f 102 then [1] else [], keep := keepL [] } [((0, 0), true), ((4, 0), true), ((8, 0), true), ((10, 0), true), ((12, 0), true), ((15, 0), true), ((20, 0), true), ((27, 0), true), ((40, 0), true), ((41, 0), true), ((42, 0), true), ((54, 0), false)] hm htt Try.func83 rfl (by kernel_rfl) rfl rfl ?_
  conv => whnf
  refine cpick.ac D k p s 6 (by omega) hc fun r p1 s1 hc1 h1 h2 => ?_
  rcases lt6 h1 h2 with rfl | rfl | rfl | rfl | rfl | rfl
  · conv => whnf
    refine ⟨⟨rfl, by decide, by decide⟩, ?_⟩
    conv => whnf
    refine ⟨⟨rfl, by decide, by decide⟩, ?_⟩
    conv => whnf
    refine ⟨by kernel_rfl, ?_⟩
    conv => whnf
    refine LatOfS.ac1 ?_
    conv => whnf
    refine ⟨by kernel_rfl, ?_⟩
    conv => whnf
    exact hK 1 [1] _ _ (by decide) (by decide) rfl (by unfold Words; decide) hc1
  · conv => whnf
    refine ⟨⟨rfl, by decide, by decide⟩, ?_⟩
    conv => whnf
    refine ⟨⟨rfl, by decide, by decide⟩, ?_⟩
    conv => whnf
    refine ⟨by kernel_rfl, ?_⟩
    conv => whnf
    refine LatOfS.ac2 ?_
    conv => whnf
    refine ⟨by kernel_rfl, ?_⟩
    conv => whnf
    exact hK 2 [3, 2] _ _ (by decide) (by decide) rfl (by unfold Words; decide) hc1
  · conv => whnf
    refine ⟨⟨rfl, by decide, by decide⟩, ?_⟩
    conv => whnf
    refine ⟨⟨rfl, by decide, by decide⟩, ?_⟩
    conv => whnf
    refine ⟨by kernel_rfl, ?_⟩
    conv => whnf
    refine LatOfS.ac3 ?_
    conv => whnf
    refine ⟨by kernel_rfl, ?_⟩
    conv => whnf
    exact hK 3 [7, 6, 4] _ _ (by decide) (by decide) rfl (by unfold Words; decide) hc1
  · conv => whnf
    refine ⟨⟨rfl, by decide, by decide⟩, ?_⟩
    conv => whnf
    refine ⟨⟨rfl, by decide, by decide⟩, ?_⟩
    conv => whnf
    refine ⟨by kernel_rfl, ?_⟩
    conv => whnf
    refine LatOfS.ac4 ?_
    conv => whnf
    refine ⟨by kernel_rfl, ?_⟩
    conv => whnf
    exact hK 4 [15, 10, 12, 8] _ _ (by decide) (by decide) rfl (by unfold Words; decide) hc1
  · conv => whnf
    refine ⟨⟨rfl, by decide, by decide⟩, ?_⟩
    conv => whnf
    refine ⟨⟨rfl, by decide, by decide⟩, ?_⟩
    conv => whnf
    refine ⟨by kernel_rfl, ?_⟩
    conv => whnf
    refine LatOfS.ac5 ?_
    conv => whnf
    refine ⟨by kernel_rfl, ?_⟩
    conv => whnf
    exact hK 5 [9, 10, 12, 8, 31] _ _ (by decide) (by decide) rfl (by unfold Words; decide) hc1
  · conv => whnf
    refine ⟨⟨rfl, by decide, by decide⟩, ?_⟩
    conv => whnf
    refine ⟨⟨rfl, by decide, by decide⟩, ?_⟩
    conv => whnf
    refine ⟨by kernel_rfl, ?_⟩
    conv => whnf
    refine LatOfS.ac8 ?_
    conv => whnf
    refine ⟨by kernel_rfl, ?_⟩
    conv => whnf
    exact hK 8 [255, 178, 212, 232, 144, 160, 192, 128] _ _ (by decide) (by decide) rfl (by unfold Words; decide) hc1
end Go.Eng.T
