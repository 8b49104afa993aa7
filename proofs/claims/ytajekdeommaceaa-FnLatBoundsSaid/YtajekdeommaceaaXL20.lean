import Derived.Test.YtajekdeommaceaaXL19
import Derived.Test.YtajekdeommaceaaXL20h
namespace Go.Eng.T
open Go.Proofs Go.Eng
set_option maxRecDepth 100000
set_option maxHeartbeats 0

theorem FnLatBounds.ac (D : List Int) (hd : Bytes D) {K : V → List Obj → List Obj → Prop} (hK : K (bv true) [] []) : AC Try.prog 4 [.is 1 (D.map encB)] [] K := by
  refine ac_body (ann []) [((5, 0), true), ((19, 0), false)] hm htt Try.func4 rfl (by kernel_rfl) rfl rfl ?_
  conv => whnf
  refine big.ac D ?_
  conv => whnf
  refine vif_dec (fun h0 => ?_) (fun h0 => ?_)
  · conv => whnf
    exact hK
  conv => whnf
  refine DrawLatJoin.ac D hd (by omega) fun N up a b hN ha hb u1 u2 hw => ?_
  conv => whnf
  refine AC.lat2 (LatJoinI.ac N up a b fun j hj => ⟨⟨rfl, rfl, rfl⟩, ?_⟩)
  conv => whnf
  refine AC.lat2 (LatMeetI.ac N up a b fun m hm => ⟨⟨rfl, rfl, rfl⟩, ?_⟩)
  conv => whnf
  refine AC.lat2 (LatJoinSJ.ac hw hj ⟨⟨rfl, rfl, rfl⟩, ?_⟩)
  conv => whnf
  iterate 5
    refine gif_bool (fun _ => ?_) (fun h => by simp at h)
    conv => whnf
  refine AC.lat2 (LatMeetSJ.ac hw hm ⟨⟨rfl, rfl, rfl⟩, ?_⟩)
  conv => whnf
  refine gif_bool (fun _ => ?_) (fun h => by simp at h)
  conv => whnf
  refine pif_bool (fun h => by simp at h) (fun _ => ?_)
  conv => whnf
  iterate 2
    refine gif_bool (fun _ => ?_) (fun h => by simp at h)
    conv => whnf
  refine pif_bool (fun h => by simp at h) (fun _ => ?_)
  conv => whnf
  refine vif_dec (fun h1 => ?_) (fun h1 => ?_)
  · conv => whnf
    refine AC.lat2 (LatJoinSJ.ac hw hj ⟨⟨rfl, rfl, rfl⟩, ?_⟩)
    conv => whnf
    iterate 5
      refine gif_bool (fun _ => ?_) (fun h => by simp at h)
      conv => whnf
    refine AC.lat2 (LatMeetSJ.ac hw hm ⟨⟨rfl, rfl, rfl⟩, ?_⟩)
    conv => whnf
    refine gif_bool (fun _ => ?_) (fun h => by simp at h)
    conv => whnf
    refine pif_bool (fun _ => ?_) (fun h => by simp at h)
    conv => whnf
    rw [eq_self]
    exact hK
  have hI := (join_lat hj h1).1
  have a0 := (join_lat hj h1).2.1
  have b0 := (join_lat hj h1).2.2
  refine Exists.elim (⟨N.toNat, by have := hI.1; omega⟩ : ∃ M : Nat, N = M) fun M e => ?_
  subst e
  have M1 := hI.1
  have ej := hj.1 ⟨hI, a0, b0⟩
  have em := hm.1 ⟨hI, a0, b0⟩
  rw [Int.toNat_natCast] at ej em
  clear hj hm
  conv => whnf
  refine lpick.ac D hd (by omega) 5 M (by omega) fun c c1 c2 => ?_
  have c0 : 0 ≤ c ∧ c < M := by omega
  have J := joined hI a0 b0 c0
  rw [← ej, ← em] at J
  conv => whnf
  refine AC.lat0 (LatEndsI.ac M up fun lo hi he => ⟨⟨rfl, rfl, rfl⟩, ?_⟩)
  have h2 := he hI
  rw [Int.toNat_natCast] at h2
  have l1 := endTo_side (u := false) hI M (by omega) c c0.1 c0.2
  have l2 := endTo_side (u := true) hI M (by omega) c c0.1 c0.2
  have l3 := endTo_ok (u := false) hI M (by omega)
  have l4 := endTo_ok (u := true) hI M (by omega)
  rw [← h2.1] at l1 l3
  rw [← h2.2] at l2 l4
  simp only [side, Bool.false_eq_true, if_false, if_true] at l1 l2
  clear he h2
  have eab : (j == b) = bit (up.getD a.toNat default) b := by rw [Bool.eq_iff_iff, J.le]; simp
  have ema : (m == a) = (j == b) := by rw [Bool.eq_iff_iff]; simpa using J.ma
  have e6 : ((m == a) == (j == b)) = true := by rw [ema]; cases (j == b) <;> rfl
  conv => whnf
  refine AC.lat2 (LatLeL.ac hI a0 c0 fun r1 q1 => ⟨⟨rfl, rfl, rfl⟩, ?_⟩)
  cases r1
  · have hX : bit (up.getD j.toNat default) c = false := Bool.eq_false_iff.2 fun h => by have := (J.above.2 h).1; rw [q1] at this; cases this
    conv => whnf
    refine AC.lat2 (LatLeL.ac hI c0 a0 fun r3 q3 => ⟨⟨rfl, rfl, rfl⟩, ?_⟩)
    cases r3
    · have hY : bit (up.getD c.toNat default) m = false := Bool.eq_false_iff.2 fun h => by have := (J.below.2 h).1; rw [q3] at this; cases this
      conv => whnf
      refine AC.lat2 (LatLeV.ac hI a0 J.jr true J.aj ⟨⟨rfl, rfl, rfl⟩, ?_⟩)
      conv => whnf
      refine AC.lat2 (LatLeV.ac hI b0 J.jr true J.bj ⟨⟨rfl, rfl, rfl⟩, ?_⟩)
      conv => whnf
      refine AC.lat2 (LatLeV.ac hI J.jr c0 false hX ⟨⟨rfl, rfl, rfl⟩, ?_⟩)
      conv => whnf
      refine AC.lat2 (LatLeV.ac hI c0 J.mr false hY ⟨⟨rfl, rfl, rfl⟩, ?_⟩)
      conv => whnf
      refine AC.lat2 (LatLeL.ac hI a0 b0 fun s p => ⟨⟨rfl, rfl, rfl⟩, ?_⟩)
      have e5 : (s == (j == b)) = true := by rw [eab, p]; cases s <;> rfl
      conv => whnf
      refine gif_bool (fun _ => ?_) (fun h => by rw [e5] at h; cases h)
      conv => whnf
      refine gif_bool (fun _ => ?_) (fun h => by rw [e5] at h; cases h)
      conv => whnf
      refine gif_bool (fun _ => ?_) (fun h => by rw [e5] at h; cases h)
      conv => whnf
      refine gif_bool (fun _ => ?_) (fun h => by rw [e5] at h; cases h)
      conv => whnf
      refine gif_bool (fun _ => ?_) (fun h => by rw [e5] at h; cases h)
      conv => whnf
      refine gif_bool (fun _ => ?_) (fun h => by rw [e5] at h; cases h)
      conv => whnf
      refine gif_bool (fun _ => ?_) (fun h => by rw [e5] at h; cases h)
      conv => whnf
      refine pif_bool (fun _ => ?_) (fun h => by rw [e5] at h; cases h)
      conv => whnf
      refine gif_bool (fun _ => ?_) (fun h => by rw [e6] at h; cases h)
      conv => whnf
      refine gif_bool (fun _ => ?_) (fun h => by rw [e6] at h; cases h)
      conv => whnf
      refine gif_bool (fun _ => ?_) (fun h => by rw [e6] at h; cases h)
      conv => whnf
      refine gif_bool (fun _ => ?_) (fun h => by rw [e6] at h; cases h)
      conv => whnf
      refine AC.lat2 (LatLeV.ac hI l3 c0 true l1 ⟨⟨rfl, rfl, rfl⟩, ?_⟩)
      conv => whnf
      refine pif_bool (fun _ => ?_) (fun h => by rw [e6] at h; cases h)
      conv => whnf
      refine AC.lat2 (LatLeV.ac hI c0 l4 true l2 ⟨⟨rfl, rfl, rfl⟩, ?_⟩)
      conv => whnf
      refine AC.lat2 (LatJoinB.ac hI a0 b0 ej ⟨⟨rfl, rfl, rfl⟩, ?_⟩)
      conv => whnf
      rw [eq_self]
      exact hK
    · conv => whnf
      refine AC.lat2 (LatLeL.ac hI c0 b0 fun r4 q4 => ⟨⟨rfl, rfl, rfl⟩, ?_⟩)
      cases r4
      · have hY : bit (up.getD c.toNat default) m = false := Bool.eq_false_iff.2 fun h => by have := (J.below.2 h).2; rw [q4] at this; cases this
        conv => whnf
        refine AC.lat2 (LatLeV.ac hI a0 J.jr true J.aj ⟨⟨rfl, rfl, rfl⟩, ?_⟩)
        conv => whnf
        refine AC.lat2 (LatLeV.ac hI b0 J.jr true J.bj ⟨⟨rfl, rfl, rfl⟩, ?_⟩)
        conv => whnf
        refine AC.lat2 (LatLeV.ac hI J.jr c0 false hX ⟨⟨rfl, rfl, rfl⟩, ?_⟩)
        conv => whnf
        refine AC.lat2 (LatLeV.ac hI c0 J.mr false hY ⟨⟨rfl, rfl, rfl⟩, ?_⟩)
        conv => whnf
        refine AC.lat2 (LatLeL.ac hI a0 b0 fun s p => ⟨⟨rfl, rfl, rfl⟩, ?_⟩)
        have e5 : (s == (j == b)) = true := by rw [eab, p]; cases s <;> rfl
        conv => whnf
        refine gif_bool (fun _ => ?_) (fun h => by rw [e5] at h; cases h)
        conv => whnf
        refine gif_bool (fun _ => ?_) (fun h => by rw [e5] at h; cases h)
        conv => whnf
        refine gif_bool (fun _ => ?_) (fun h => by rw [e5] at h; cases h)
        conv => whnf
        refine gif_bool (fun _ => ?_) (fun h => by rw [e5] at h; cases h)
        conv => whnf
        refine gif_bool (fun _ => ?_) (fun h => by rw [e5] at h; cases h)
        conv => whnf
        refine gif_bool (fun _ => ?_) (fun h => by rw [e5] at h; cases h)
        conv => whnf
        refine gif_bool (fun _ => ?_) (fun h => by rw [e5] at h; cases h)
        conv => whnf
        refine pif_bool (fun _ => ?_) (fun h => by rw [e5] at h; cases h)
        conv => whnf
        refine gif_bool (fun _ => ?_) (fun h => by rw [e6] at h; cases h)
        conv => whnf
        refine gif_bool (fun _ => ?_) (fun h => by rw [e6] at h; cases h)
        conv => whnf
        refine gif_bool (fun _ => ?_) (fun h => by rw [e6] at h; cases h)
        conv => whnf
        refine gif_bool (fun _ => ?_) (fun h => by rw [e6] at h; cases h)
        conv => whnf
        refine AC.lat2 (LatLeV.ac hI l3 c0 true l1 ⟨⟨rfl, rfl, rfl⟩, ?_⟩)
        conv => whnf
        refine pif_bool (fun _ => ?_) (fun h => by rw [e6] at h; cases h)
        conv => whnf
        refine AC.lat2 (LatLeV.ac hI c0 l4 true l2 ⟨⟨rfl, rfl, rfl⟩, ?_⟩)
        conv => whnf
        refine AC.lat2 (LatJoinB.ac hI a0 b0 ej ⟨⟨rfl, rfl, rfl⟩, ?_⟩)
        conv => whnf
        rw [eq_self]
        exact hK
      · have hY : bit (up.getD c.toNat default) m = true := J.below.1 ⟨q3, q4⟩
        conv => whnf
        refine AC.lat2 (LatLeV.ac hI a0 J.jr true J.aj ⟨⟨rfl, rfl, rfl⟩, ?_⟩)
        conv => whnf
        refine AC.lat2 (LatLeV.ac hI b0 J.jr true J.bj ⟨⟨rfl, rfl, rfl⟩, ?_⟩)
        conv => whnf
        refine AC.lat2 (LatLeV.ac hI J.jr c0 false hX ⟨⟨rfl, rfl, rfl⟩, ?_⟩)
        conv => whnf
        refine AC.lat2 (LatLeV.ac hI c0 J.mr true hY ⟨⟨rfl, rfl, rfl⟩, ?_⟩)
        conv => whnf
        refine AC.lat2 (LatLeL.ac hI a0 b0 fun s p => ⟨⟨rfl, rfl, rfl⟩, ?_⟩)
        have e5 : (s == (j == b)) = true := by rw [eab, p]; cases s <;> rfl
        conv => whnf
        refine gif_bool (fun _ => ?_) (fun h => by rw [e5] at h; cases h)
        conv => whnf
        refine gif_bool (fun _ => ?_) (fun h => by rw [e5] at h; cases h)
        conv => whnf
        refine gif_bool (fun _ => ?_) (fun h => by rw [e5] at h; cases h)
        conv => whnf
        refine gif_bool (fun _ => ?_) (fun h => by rw [e5] at h; cases h)
        conv => whnf
        refine gif_bool (fun _ => ?_) (fun h => by rw [e5] at h; cases h)
        conv => whnf
        refine gif_bool (fun _ => ?_) (fun h => by rw [e5] at h; cases h)
        conv => whnf
        refine gif_bool (fun _ => ?_) (fun h => by rw [e5] at h; cases h)
        conv => whnf
        refine pif_bool (fun _ => ?_) (fun h => by rw [e5] at h; cases h)
        conv => whnf
        refine gif_bool (fun _ => ?_) (fun h => by rw [e6] at h; cases h)
        conv => whnf
        refine gif_bool (fun _ => ?_) (fun h => by rw [e6] at h; cases h)
        conv => whnf
        refine gif_bool (fun _ => ?_) (fun h => by rw [e6] at h; cases h)
        conv => whnf
        refine gif_bool (fun _ => ?_) (fun h => by rw [e6] at h; cases h)
        conv => whnf
        refine AC.lat2 (LatLeV.ac hI l3 c0 true l1 ⟨⟨rfl, rfl, rfl⟩, ?_⟩)
        conv => whnf
        refine pif_bool (fun _ => ?_) (fun h => by rw [e6] at h; cases h)
        conv => whnf
        refine AC.lat2 (LatLeV.ac hI c0 l4 true l2 ⟨⟨rfl, rfl, rfl⟩, ?_⟩)
        conv => whnf
        refine AC.lat2 (LatJoinB.ac hI a0 b0 ej ⟨⟨rfl, rfl, rfl⟩, ?_⟩)
        conv => whnf
        rw [eq_self]
        exact hK
  · conv => whnf
    refine AC.lat2 (LatLeL.ac hI b0 c0 fun r2 q2 => ⟨⟨rfl, rfl, rfl⟩, ?_⟩)
    cases r2
    · have hX : bit (up.getD j.toNat default) c = false := Bool.eq_false_iff.2 fun h => by have := (J.above.2 h).2; rw [q2] at this; cases this
      conv => whnf
      refine AC.lat2 (LatLeL.ac hI c0 a0 fun r3 q3 => ⟨⟨rfl, rfl, rfl⟩, ?_⟩)
      cases r3
      · have hY : bit (up.getD c.toNat default) m = false := Bool.eq_false_iff.2 fun h => by have := (J.below.2 h).1; rw [q3] at this; cases this
        conv => whnf
        refine AC.lat2 (LatLeV.ac hI a0 J.jr true J.aj ⟨⟨rfl, rfl, rfl⟩, ?_⟩)
        conv => whnf
        refine AC.lat2 (LatLeV.ac hI b0 J.jr true J.bj ⟨⟨rfl, rfl, rfl⟩, ?_⟩)
        conv => whnf
        refine AC.lat2 (LatLeV.ac hI J.jr c0 false hX ⟨⟨rfl, rfl, rfl⟩, ?_⟩)
        conv => whnf
        refine AC.lat2 (LatLeV.ac hI c0 J.mr false hY ⟨⟨rfl, rfl, rfl⟩, ?_⟩)
        conv => whnf
        refine AC.lat2 (LatLeL.ac hI a0 b0 fun s p => ⟨⟨rfl, rfl, rfl⟩, ?_⟩)
        have e5 : (s == (j == b)) = true := by rw [eab, p]; cases s <;> rfl
        conv => whnf
        refine gif_bool (fun _ => ?_) (fun h => by rw [e5] at h; cases h)
        conv => whnf
        refine gif_bool (fun _ => ?_) (fun h => by rw [e5] at h; cases h)
        conv => whnf
        refine gif_bool (fun _ => ?_) (fun h => by rw [e5] at h; cases h)
        conv => whnf
        refine gif_bool (fun _ => ?_) (fun h => by rw [e5] at h; cases h)
        conv => whnf
        refine gif_bool (fun _ => ?_) (fun h => by rw [e5] at h; cases h)
        conv => whnf
        refine gif_bool (fun _ => ?_) (fun h => by rw [e5] at h; cases h)
        conv => whnf
        refine gif_bool (fun _ => ?_) (fun h => by rw [e5] at h; cases h)
        conv => whnf
        refine pif_bool (fun _ => ?_) (fun h => by rw [e5] at h; cases h)
        conv => whnf
        refine gif_bool (fun _ => ?_) (fun h => by rw [e6] at h; cases h)
        conv => whnf
        refine gif_bool (fun _ => ?_) (fun h => by rw [e6] at h; cases h)
        conv => whnf
        refine gif_bool (fun _ => ?_) (fun h => by rw [e6] at h; cases h)
        conv => whnf
        refine gif_bool (fun _ => ?_) (fun h => by rw [e6] at h; cases h)
        conv => whnf
        refine AC.lat2 (LatLeV.ac hI l3 c0 true l1 ⟨⟨rfl, rfl, rfl⟩, ?_⟩)
        conv => whnf
        refine pif_bool (fun _ => ?_) (fun h => by rw [e6] at h; cases h)
        conv => whnf
        refine AC.lat2 (LatLeV.ac hI c0 l4 true l2 ⟨⟨rfl, rfl, rfl⟩, ?_⟩)
        conv => whnf
        refine AC.lat2 (LatJoinB.ac hI a0 b0 ej ⟨⟨rfl, rfl, rfl⟩, ?_⟩)
        conv => whnf
        rw [eq_self]
        exact hK
      · conv => whnf
        refine AC.lat2 (LatLeL.ac hI c0 b0 fun r4 q4 => ⟨⟨rfl, rfl, rfl⟩, ?_⟩)
        cases r4
        · have hY : bit (up.getD c.toNat default) m = false := Bool.eq_false_iff.2 fun h => by have := (J.below.2 h).2; rw [q4] at this; cases this
          conv => whnf
          refine AC.lat2 (LatLeV.ac hI a0 J.jr true J.aj ⟨⟨rfl, rfl, rfl⟩, ?_⟩)
          conv => whnf
          refine AC.lat2 (LatLeV.ac hI b0 J.jr true J.bj ⟨⟨rfl, rfl, rfl⟩, ?_⟩)
          conv => whnf
          refine AC.lat2 (LatLeV.ac hI J.jr c0 false hX ⟨⟨rfl, rfl, rfl⟩, ?_⟩)
          conv => whnf
          refine AC.lat2 (LatLeV.ac hI c0 J.mr false hY ⟨⟨rfl, rfl, rfl⟩, ?_⟩)
          conv => whnf
          refine AC.lat2 (LatLeL.ac hI a0 b0 fun s p => ⟨⟨rfl, rfl, rfl⟩, ?_⟩)
          have e5 : (s == (j == b)) = true := by rw [eab, p]; cases s <;> rfl
          conv => whnf
          refine gif_bool (fun _ => ?_) (fun h => by rw [e5] at h; cases h)
          conv => whnf
          refine gif_bool (fun _ => ?_) (fun h => by rw [e5] at h; cases h)
          conv => whnf
          refine gif_bool (fun _ => ?_) (fun h => by rw [e5] at h; cases h)
          conv => whnf
          refine gif_bool (fun _ => ?_) (fun h => by rw [e5] at h; cases h)
          conv => whnf
          refine gif_bool (fun _ => ?_) (fun h => by rw [e5] at h; cases h)
          conv => whnf
          refine gif_bool (fun _ => ?_) (fun h => by rw [e5] at h; cases h)
          conv => whnf
          refine gif_bool (fun _ => ?_) (fun h => by rw [e5] at h; cases h)
          conv => whnf
          refine pif_bool (fun _ => ?_) (fun h => by rw [e5] at h; cases h)
          conv => whnf
          refine gif_bool (fun _ => ?_) (fun h => by rw [e6] at h; cases h)
          conv => whnf
          refine gif_bool (fun _ => ?_) (fun h => by rw [e6] at h; cases h)
          conv => whnf
          refine gif_bool (fun _ => ?_) (fun h => by rw [e6] at h; cases h)
          conv => whnf
          refine gif_bool (fun _ => ?_) (fun h => by rw [e6] at h; cases h)
          conv => whnf
          refine AC.lat2 (LatLeV.ac hI l3 c0 true l1 ⟨⟨rfl, rfl, rfl⟩, ?_⟩)
          conv => whnf
          refine pif_bool (fun _ => ?_) (fun h => by rw [e6] at h; cases h)
          conv => whnf
          refine AC.lat2 (LatLeV.ac hI c0 l4 true l2 ⟨⟨rfl, rfl, rfl⟩, ?_⟩)
          conv => whnf
          refine AC.lat2 (LatJoinB.ac hI a0 b0 ej ⟨⟨rfl, rfl, rfl⟩, ?_⟩)
          conv => whnf
          rw [eq_self]
          exact hK
        · have hY : bit (up.getD c.toNat default) m = true := J.below.1 ⟨q3, q4⟩
          conv => whnf
          refine AC.lat2 (LatLeV.ac hI a0 J.jr true J.aj ⟨⟨rfl, rfl, rfl⟩, ?_⟩)
          conv => whnf
          refine AC.lat2 (LatLeV.ac hI b0 J.jr true J.bj ⟨⟨rfl, rfl, rfl⟩, ?_⟩)
          conv => whnf
          refine AC.lat2 (LatLeV.ac hI J.jr c0 false hX ⟨⟨rfl, rfl, rfl⟩, ?_⟩)
          conv => whnf
          refine AC.lat2 (LatLeV.ac hI c0 J.mr true hY ⟨⟨rfl, rfl, rfl⟩, ?_⟩)
          conv => whnf
          refine AC.lat2 (LatLeL.ac hI a0 b0 fun s p => ⟨⟨rfl, rfl, rfl⟩, ?_⟩)
          have e5 : (s == (j == b)) = true := by rw [eab, p]; cases s <;> rfl
          conv => whnf
          refine gif_bool (fun _ => ?_) (fun h => by rw [e5] at h; cases h)
          conv => whnf
          refine gif_bool (fun _ => ?_) (fun h => by rw [e5] at h; cases h)
          conv => whnf
          refine gif_bool (fun _ => ?_) (fun h => by rw [e5] at h; cases h)
          conv => whnf
          refine gif_bool (fun _ => ?_) (fun h => by rw [e5] at h; cases h)
          conv => whnf
          refine gif_bool (fun _ => ?_) (fun h => by rw [e5] at h; cases h)
          conv => whnf
          refine gif_bool (fun _ => ?_) (fun h => by rw [e5] at h; cases h)
          conv => whnf
          refine gif_bool (fun _ => ?_) (fun h => by rw [e5] at h; cases h)
          conv => whnf
          refine pif_bool (fun _ => ?_) (fun h => by rw [e5] at h; cases h)
          conv => whnf
          refine gif_bool (fun _ => ?_) (fun h => by rw [e6] at h; cases h)
          conv => whnf
          refine gif_bool (fun _ => ?_) (fun h => by rw [e6] at h; cases h)
          conv => whnf
          refine gif_bool (fun _ => ?_) (fun h => by rw [e6] at h; cases h)
          conv => whnf
          refine gif_bool (fun _ => ?_) (fun h => by rw [e6] at h; cases h)
          conv => whnf
          refine AC.lat2 (LatLeV.ac hI l3 c0 true l1 ⟨⟨rfl, rfl, rfl⟩, ?_⟩)
          conv => whnf
          refine pif_bool (fun _ => ?_) (fun h => by rw [e6] at h; cases h)
          conv => whnf
          refine AC.lat2 (LatLeV.ac hI c0 l4 true l2 ⟨⟨rfl, rfl, rfl⟩, ?_⟩)
          conv => whnf
          refine AC.lat2 (LatJoinB.ac hI a0 b0 ej ⟨⟨rfl, rfl, rfl⟩, ?_⟩)
          conv => whnf
          rw [eq_self]
          exact hK
    · have hX : bit (up.getD j.toNat default) c = true := J.above.1 ⟨q1, q2⟩
      conv => whnf
      refine AC.lat2 (LatLeL.ac hI c0 a0 fun r3 q3 => ⟨⟨rfl, rfl, rfl⟩, ?_⟩)
      cases r3
      · have hY : bit (up.getD c.toNat default) m = false := Bool.eq_false_iff.2 fun h => by have := (J.below.2 h).1; rw [q3] at this; cases this
        conv => whnf
        refine AC.lat2 (LatLeV.ac hI a0 J.jr true J.aj ⟨⟨rfl, rfl, rfl⟩, ?_⟩)
        conv => whnf
        refine AC.lat2 (LatLeV.ac hI b0 J.jr true J.bj ⟨⟨rfl, rfl, rfl⟩, ?_⟩)
        conv => whnf
        refine AC.lat2 (LatLeV.ac hI J.jr c0 true hX ⟨⟨rfl, rfl, rfl⟩, ?_⟩)
        conv => whnf
        refine AC.lat2 (LatLeV.ac hI c0 J.mr false hY ⟨⟨rfl, rfl, rfl⟩, ?_⟩)
        conv => whnf
        refine AC.lat2 (LatLeL.ac hI a0 b0 fun s p => ⟨⟨rfl, rfl, rfl⟩, ?_⟩)
        have e5 : (s == (j == b)) = true := by rw [eab, p]; cases s <;> rfl
        conv => whnf
        refine gif_bool (fun _ => ?_) (fun h => by rw [e5] at h; cases h)
        conv => whnf
        refine gif_bool (fun _ => ?_) (fun h => by rw [e5] at h; cases h)
        conv => whnf
        refine gif_bool (fun _ => ?_) (fun h => by rw [e5] at h; cases h)
        conv => whnf
        refine gif_bool (fun _ => ?_) (fun h => by rw [e5] at h; cases h)
        conv => whnf
        refine gif_bool (fun _ => ?_) (fun h => by rw [e5] at h; cases h)
        conv => whnf
        refine gif_bool (fun _ => ?_) (fun h => by rw [e5] at h; cases h)
        conv => whnf
        refine gif_bool (fun _ => ?_) (fun h => by rw [e5] at h; cases h)
        conv => whnf
        refine pif_bool (fun _ => ?_) (fun h => by rw [e5] at h; cases h)
        conv => whnf
        refine gif_bool (fun _ => ?_) (fun h => by rw [e6] at h; cases h)
        conv => whnf
        refine gif_bool (fun _ => ?_) (fun h => by rw [e6] at h; cases h)
        conv => whnf
        refine gif_bool (fun _ => ?_) (fun h => by rw [e6] at h; cases h)
        conv => whnf
        refine gif_bool (fun _ => ?_) (fun h => by rw [e6] at h; cases h)
        conv => whnf
        refine AC.lat2 (LatLeV.ac hI l3 c0 true l1 ⟨⟨rfl, rfl, rfl⟩, ?_⟩)
        conv => whnf
        refine pif_bool (fun _ => ?_) (fun h => by rw [e6] at h; cases h)
        conv => whnf
        refine AC.lat2 (LatLeV.ac hI c0 l4 true l2 ⟨⟨rfl, rfl, rfl⟩, ?_⟩)
        conv => whnf
        refine AC.lat2 (LatJoinB.ac hI a0 b0 ej ⟨⟨rfl, rfl, rfl⟩, ?_⟩)
        conv => whnf
        rw [eq_self]
        exact hK
      · conv => whnf
        refine AC.lat2 (LatLeL.ac hI c0 b0 fun r4 q4 => ⟨⟨rfl, rfl, rfl⟩, ?_⟩)
        cases r4
        · have hY : bit (up.getD c.toNat default) m = false := Bool.eq_false_iff.2 fun h => by have := (J.below.2 h).2; rw [q4] at this; cases this
          conv => whnf
          refine AC.lat2 (LatLeV.ac hI a0 J.jr true J.aj ⟨⟨rfl, rfl, rfl⟩, ?_⟩)
          conv => whnf
          refine AC.lat2 (LatLeV.ac hI b0 J.jr true J.bj ⟨⟨rfl, rfl, rfl⟩, ?_⟩)
          conv => whnf
          refine AC.lat2 (LatLeV.ac hI J.jr c0 true hX ⟨⟨rfl, rfl, rfl⟩, ?_⟩)
          conv => whnf
          refine AC.lat2 (LatLeV.ac hI c0 J.mr false hY ⟨⟨rfl, rfl, rfl⟩, ?_⟩)
          conv => whnf
          refine AC.lat2 (LatLeL.ac hI a0 b0 fun s p => ⟨⟨rfl, rfl, rfl⟩, ?_⟩)
          have e5 : (s == (j == b)) = true := by rw [eab, p]; cases s <;> rfl
          conv => whnf
          refine gif_bool (fun _ => ?_) (fun h => by rw [e5] at h; cases h)
          conv => whnf
          refine gif_bool (fun _ => ?_) (fun h => by rw [e5] at h; cases h)
          conv => whnf
          refine gif_bool (fun _ => ?_) (fun h => by rw [e5] at h; cases h)
          conv => whnf
          refine gif_bool (fun _ => ?_) (fun h => by rw [e5] at h; cases h)
          conv => whnf
          refine gif_bool (fun _ => ?_) (fun h => by rw [e5] at h; cases h)
          conv => whnf
          refine gif_bool (fun _ => ?_) (fun h => by rw [e5] at h; cases h)
          conv => whnf
          refine gif_bool (fun _ => ?_) (fun h => by rw [e5] at h; cases h)
          conv => whnf
          refine pif_bool (fun _ => ?_) (fun h => by rw [e5] at h; cases h)
          conv => whnf
          refine gif_bool (fun _ => ?_) (fun h => by rw [e6] at h; cases h)
          conv => whnf
          refine gif_bool (fun _ => ?_) (fun h => by rw [e6] at h; cases h)
          conv => whnf
          refine gif_bool (fun _ => ?_) (fun h => by rw [e6] at h; cases h)
          conv => whnf
          refine gif_bool (fun _ => ?_) (fun h => by rw [e6] at h; cases h)
          conv => whnf
          refine AC.lat2 (LatLeV.ac hI l3 c0 true l1 ⟨⟨rfl, rfl, rfl⟩, ?_⟩)
          conv => whnf
          refine pif_bool (fun _ => ?_) (fun h => by rw [e6] at h; cases h)
          conv => whnf
          refine AC.lat2 (LatLeV.ac hI c0 l4 true l2 ⟨⟨rfl, rfl, rfl⟩, ?_⟩)
          conv => whnf
          refine AC.lat2 (LatJoinB.ac hI a0 b0 ej ⟨⟨rfl, rfl, rfl⟩, ?_⟩)
          conv => whnf
          rw [eq_self]
          exact hK
        · have hY : bit (up.getD c.toNat default) m = true := J.below.1 ⟨q3, q4⟩
          conv => whnf
          refine AC.lat2 (LatLeV.ac hI a0 J.jr true J.aj ⟨⟨rfl, rfl, rfl⟩, ?_⟩)
          conv => whnf
          refine AC.lat2 (LatLeV.ac hI b0 J.jr true J.bj ⟨⟨rfl, rfl, rfl⟩, ?_⟩)
          conv => whnf
          refine AC.lat2 (LatLeV.ac hI J.jr c0 true hX ⟨⟨rfl, rfl, rfl⟩, ?_⟩)
          conv => whnf
          refine AC.lat2 (LatLeV.ac hI c0 J.mr true hY ⟨⟨rfl, rfl, rfl⟩, ?_⟩)
          conv => whnf
          refine AC.lat2 (LatLeL.ac hI a0 b0 fun s p => ⟨⟨rfl, rfl, rfl⟩, ?_⟩)
          have e5 : (s == (j == b)) = true := by rw [eab, p]; cases s <;> rfl
          conv => whnf
          refine gif_bool (fun _ => ?_) (fun h => by rw [e5] at h; cases h)
          conv => whnf
          refine gif_bool (fun _ => ?_) (fun h => by rw [e5] at h; cases h)
          conv => whnf
          refine gif_bool (fun _ => ?_) (fun h => by rw [e5] at h; cases h)
          conv => whnf
          refine gif_bool (fun _ => ?_) (fun h => by rw [e5] at h; cases h)
          conv => whnf
          refine gif_bool (fun _ => ?_) (fun h => by rw [e5] at h; cases h)
          conv => whnf
          refine gif_bool (fun _ => ?_) (fun h => by rw [e5] at h; cases h)
          conv => whnf
          refine gif_bool (fun _ => ?_) (fun h => by rw [e5] at h; cases h)
          conv => whnf
          refine pif_bool (fun _ => ?_) (fun h => by rw [e5] at h; cases h)
          conv => whnf
          refine gif_bool (fun _ => ?_) (fun h => by rw [e6] at h; cases h)
          conv => whnf
          refine gif_bool (fun _ => ?_) (fun h => by rw [e6] at h; cases h)
          conv => whnf
          refine gif_bool (fun _ => ?_) (fun h => by rw [e6] at h; cases h)
          conv => whnf
          refine gif_bool (fun _ => ?_) (fun h => by rw [e6] at h; cases h)
          conv => whnf
          refine AC.lat2 (LatLeV.ac hI l3 c0 true l1 ⟨⟨rfl, rfl, rfl⟩, ?_⟩)
          conv => whnf
          refine pif_bool (fun _ => ?_) (fun h => by rw [e6] at h; cases h)
          conv => whnf
          refine AC.lat2 (LatLeV.ac hI c0 l4 true l2 ⟨⟨rfl, rfl, rfl⟩, ?_⟩)
          conv => whnf
          refine AC.lat2 (LatJoinB.ac hI a0 b0 ej ⟨⟨rfl, rfl, rfl⟩, ?_⟩)
          conv => whnf
          rw [eq_self]
          exact hK
end Go.Eng.T
