import Derived.Test.YtajekdeommaceaaXL17
namespace Go.Eng.T
open Go.Proofs Go.Eng
set_option maxRecDepth 100000
set_option maxHeartbeats 0

theorem CurI.up {D : List Int} {k k' p s : Int} (h : CurI D k p s) (hk : k ≤ k') : CurI D k' p s := ⟨h.d, h.l, h.p0, by have := h.pk; omega, h.s0, h.s1⟩

theorem label.ac (D : List Int) (k p s N : Int) (up : List Int) (hN : -9223372036854775808 ≤ N ∧ N ≤ 9223372036854775807) (hk : k ≤ 800000) (hc : CurI D k p s) {K : V → List Obj → List Obj → Prop}
    (hK : ∀ r p' s', CurI D (k + 3) p' s' → -9223372036854775808 ≤ r → r ≤ 9223372036854775807 → K (iv r) [cur D p' s', upO up] []) : AC Try.prog 52 [.lp (0,0) 3 0 0, .agg [iv N, .ls (0, 1) 1 0 up.length]] [cur D p s, upO up] K := by
  refine ac_body (ann []) [((0, 0), true), ((5, 0), true), ((0, 1), false)] hm htt Try.func52 rfl (by kernel_rfl) rfl rfl ?_
  conv => whnf
  refine once.ac D k p s 12 (by omega) hc fun r p1 s1 hc1 => ?_
  conv => whnf
  refine vif_bool (fun q => ?_) (fun q => ?_)
  · conv => whnf
    refine raw.ac D (k + 1) p1 s1 (by omega) hc1 fun r2 p2 s2 hc2 h1 h2 => ?_
    conv => whnf
    exact hK _ _ _ (hc2.up (by omega)) h1 h2
  conv => whnf
  refine cpick.ac D (k + 1) p1 s1 _ (by omega) hc1 fun r2 p2 s2 hc2 h1 h2 => ?_
  conv => whnf
  have : r2 ≤ 9223372036854775807 := by
    rcases h2 with h2 | h2
    · split at h2 <;> split at h2 <;> omega
    · omega
  exact hK _ _ _ (hc2.up (by omega)) (by omega) this
end Go.Eng.T
