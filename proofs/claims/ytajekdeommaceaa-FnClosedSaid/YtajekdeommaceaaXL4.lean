import Derived.Test.YtajekdeommaceaaXL3
namespace Go.Eng.T
open Go.Proofs Go.Eng
set_option maxRecDepth 100000
set_option maxHeartbeats 0

abbrev cur (D : List Int) (p s : Int) : Obj := .arr false 3 [.agg [.is 1 (D.map encB), iv p, iv s]]
def Bytes (D : List Int) : Prop := ∀ x ∈ D, 0 ≤ x ∧ x ≤ 255
structure CurI (D : List Int) (k p s : Int) : Prop where
  d : Bytes D
  l : D.length ≤ 1048576
  p0 : 0 ≤ p
  pk : p ≤ k
  s0 : 0 ≤ s
  s1 : s ≤ 65521

theorem Bytes.get {D : List Int} (h : Bytes D) (i : Nat) : 0 ≤ D.getD i default ∧ D.getD i default ≤ 255 := by
  by_cases hi : i < D.length
  · rw [List.getD_eq_getElem?_getD, List.getElem?_eq_getElem hi]
    exact h _ (List.getElem_mem hi)
  · rw [List.getD_eq_getElem?_getD, List.getElem?_eq_none (by omega)]
    exact ⟨by decide, by decide⟩

theorem tmod_nn {x y : Int} (h : 0 ≤ x) (hy : 0 < y) : 0 ≤ x.tmod y ∧ x.tmod y < y := by
  rw [Int.tmod_eq_emod_of_nonneg h]
  exact ⟨Int.emod_nonneg _ (by omega), Int.emod_lt_of_pos _ hy⟩
theorem tdiv_nn {x y : Int} (h : 0 ≤ x) (hy : 0 < y) : 0 ≤ x.tdiv y ∧ x.tdiv y ≤ x := by
  rw [Int.tdiv_eq_ediv_of_nonneg h]
  exact ⟨Int.ediv_nonneg h (by omega), Int.ediv_le_self _ h⟩

theorem l01Open.ac (D : List Int) (hd : Bytes D) (hl : D.length ≤ 1048576) {K : V → List Obj → List Obj → Prop} (hK : ∀ s, CurI D 0 0 s → K (.lp (1, 0) 3 0 0) [] [cur D 0 s]) : AC Try.prog 43 [.is 1 (D.map encB)] [] K := by
  refine ac_body (ann []) [((8, 0), true)] hm htt Try.func43 rfl (by kernel_rfl) rfl rfl ?_
  conv => whnf
  have h1 := tmod_nn (x := ((D.map encB).length : Int)) (y := 1000) (by omega) (by omega)
  refine hK _ ⟨hd, hl, by omega, by omega, ?_, ?_⟩
  · rw [wrap_i64 (by omega)]; omega
  · rw [wrap_i64 (by omega)]; omega

theorem cpick.ac (D : List Int) (k p s n : Int) (hk : k ≤ 1000000) (hc : CurI D k p s) {K : V → List Obj → List Obj → Prop} (hK : ∀ r p' s', CurI D (k + 1) p' s' → 0 ≤ r → (r < n ∨ r = 0) → K (iv r) [cur D p' s'] []) : AC Try.prog 62 [.lp (0,0) 3 0 0, iv n] [cur D p s] K := by
  have hp := hc.p0
  have hp2 := hc.pk
  have hs0 := hc.s0
  have hs1 := hc.s1
  have hl := hc.l
  have hm : (D.map encB).length = D.length := by rw [List.length_map]
  refine ac_body (ann []) [((0,0),true)] Go.Eng.T.hm htt Try.func62 rfl (by kernel_rfl) rfl rfl ?_
  conv => whnf
  refine vif_dec (fun h => ?_) (fun h => ?_)
  · conv => whnf
    exact hK 0 p s ⟨hc.d, hc.l, hp, by omega, hs0, hs1⟩ (by omega) (.inr rfl)
  conv => whnf
  refine ⟨by kernel_rfl, ?_⟩
  conv => whnf
  refine vif_dec (fun h2 => ?_) (fun h2 => ?_)
  · conv => whnf
    refine ⟨⟨rfl, by omega, by omega⟩, ?_⟩
    conv => whnf
    refine ⟨_, map_get (by omega), ?_⟩
    conv => whnf
    refine ⟨by kernel_rfl, ?_⟩
    conv => whnf
    refine ⟨⟨rfl, by omega⟩, ?_⟩
    conv => whnf
    have hb := hc.d.get p.toNat
    have ht := tmod_nn (x := D.getD p.toNat default) (y := n) hb.1 (by omega)
    have e := wrap_i64 (x := D.getD p.toNat default) (by omega)
    refine hK _ _ _ ⟨hc.d, hc.l, ?_, ?_, hs0, hs1⟩ ?_ (.inl ?_)
    · rw [wrap_i64 (by omega)]; omega
    · rw [wrap_i64 (by omega)]; omega
    · rw [e]; exact ht.1
    · rw [e]; exact ht.2
  · conv => whnf
    have ht := tmod_nn (x := s * 1103 + 12345) (y := 65521) (by omega) (by omega)
    have e1 := wrap_i64 (x := s * 1103) (by omega)
    have e2 := wrap_i64 (x := s * 1103 + 12345) (by omega)
    refine vif_dec (fun h3 => ?_) (fun h3 => ?_)
    · conv => whnf
      refine ⟨⟨rfl, by omega⟩, ?_⟩
      conv => whnf
      have hx := tmod_nn (x := p) (y := ((D.map encB).length : Int)) (by omega) (by omega)
      refine ⟨⟨rfl, hx.1, hx.2⟩, ?_⟩
      conv => whnf
      refine ⟨_, map_get hx, ?_⟩
      conv => whnf
      refine ⟨by kernel_rfl, ?_⟩
      conv => whnf
      refine ⟨⟨rfl, by omega⟩, ?_⟩
      conv => whnf
      rw [e1, e2]
      have hb := hc.d.get (p.tmod ((D.map encB).length : Int)).toNat
      generalize D.getD (p.tmod ((D.map encB).length : Int)).toNat default = b at hb ⊢
      generalize Int.tmod (s * 1103 + 12345) 65521 = q at ht ⊢
      have hq := tdiv_nn (x := q) (y := 7) (by omega) (by omega)
      rw [wrap_i64 (x := b) (by omega), wrap_i64 (x := q.tdiv 7) (by omega), wrap_i64 (x := q.tdiv 7 + b) (by omega), wrap_i64 (x := p + 1) (by omega)]
      have hr := tmod_nn (x := q.tdiv 7 + b) (y := n) (by omega) (by omega)
      exact hK _ _ _ ⟨hc.d, hc.l, by omega, by omega, by omega, by omega⟩ hr.1 (.inl hr.2)
    · conv => whnf
      refine ⟨⟨rfl, by omega⟩, ?_⟩
      conv => whnf
      rw [e1, e2, wrap_i64 (x := p + 1) (by omega)]
      exact hK _ _ _ ⟨hc.d, hc.l, by omega, by omega, by omega, by omega⟩ (by simp) (.inr (by simp))
end Go.Eng.T
