import Derived.Test.YtajekdeommaceaaXL18
namespace Go.Eng.T
open Go.Proofs Go.Eng
set_option maxRecDepth 100000
set_option maxHeartbeats 0

def I64 (x : Int) : Prop := -9223372036854775808 ≤ x ∧ x ≤ 9223372036854775807

/-- The lattice that is drawn: any number, a row of words. -/
theorem DrawLatJoin.ac (D : List Int) (hd : Bytes D) (hl : D.length ≤ 1048576) {K : V → List Obj → List Obj → Prop}
    (hK : ∀ N up a b, I64 N → I64 a → I64 b → 1 ≤ up.length → up.length ≤ 9 → Words up → K (.tup [latO N up, iv a, iv b]) [] [upO up]) : AC Try.prog 16 [.is 1 (D.map encB)] [] K := by
  refine ac_body (ann []) [((4, 0), true), ((10, 0), true), ((8, 0), true), ((12, 0), false)] hm htt Try.func16 rfl (by kernel_rfl) rfl rfl ?_
  conv => whnf
  refine l01Open.ac D hd hl fun s hc => ?_
  conv => whnf
  refine badLat.ac lat.ac D 0 0 s (by omega) hc fun N up p1 s1 h1 h2 h3 h4 hw hc1 => ?_
  conv => whnf
  refine ⟨by kernel_rfl, ?_⟩
  conv => whnf
  refine label.ac D 9 p1 s1 N up ⟨h1, h2⟩ (by omega) (hc1.up (by omega)) fun a p2 s2 hc2 a1 a2 => ?_
  conv => whnf
  refine ⟨by kernel_rfl, ?_⟩
  conv => whnf
  refine label.ac D 12 p2 s2 N up ⟨h1, h2⟩ (by omega) (hc2.up (by omega)) fun b p3 s3 hc3 b1 b2 => ?_
  conv => whnf
  refine ⟨by kernel_rfl, ?_⟩
  conv => whnf
  exact hK N up a b ⟨h1, h2⟩ ⟨a1, a2⟩ ⟨b1, b2⟩ h3 h4 hw
end Go.Eng.T
