import Derived.Test.YtpfmaiiolifblaaXB0
namespace Go.Eng.T
open Go.Proofs Go.Eng
set_option maxRecDepth 100000
set_option maxHeartbeats 0

theorem in.ac (n a b : Int) {K : V → List Obj → List Obj → Prop} (hK : ∀ r, (r = true ↔ a ≤ n ∧ n ≤ b) → K (bv r) [] []) : AC Try.prog 145 [iv n, iv a, iv b] [] K := by
  refine ac_body (ann []) [((998, 0), true)] hm htt Try.func145 rfl (by kernel_rfl) rfl rfl ?_
  conv => whnf
  refine bF_dec (fun h1 => ?_) (fun h1 => ?_)
  · conv => whnf
    refine bF_dec (fun h2 => ?_) (fun h2 => ?_)
    · conv => whnf
      exact kT hK ⟨h1, h2⟩
    · conv => whnf
      exact kF hK fun h => h2 h.2
  · conv => whnf
    exact kF hK fun h => h1 h.1
theorem in2 (n a b : Int) : Two 145 [iv n, iv a, iv b] (a ≤ n ∧ n ≤ b) := fun hT hF => in.ac n a b fun r hr => by
  cases r
  · exact hF fun h => by have := hr.2 h; cases this
  · exact hT (hr.1 rfl)
/-- The drawing cursor. -/
abbrev cur (D : List Int) (p s : Int) : Obj := .arr false 3 [.agg [.is 1 (D.map encB), iv p, iv s]]
structure CurI (D : List Int) (k p s : Int) : Prop where
  d : Bytes D
  l : D.length ≤ 1048576
  p0 : 0 ≤ p
  pk : p ≤ k
  s0 : 0 ≤ s
  s1 : s ≤ 65521
theorem CurI.up {D : List Int} {k k' p s : Int} (h : CurI D k p s) (hk : k ≤ k') : CurI D k' p s := ⟨h.d, h.l, h.p0, Int.le_trans h.pk hk, h.s0, h.s1⟩
theorem l01Open.ac (D : List Int) (hd : Bytes D) (hl : D.length ≤ 1048576) {K : V → List Obj → List Obj → Prop} (hK : ∀ s, CurI D 0 0 s → K (.lp (1, 0) 3 0 0) [] [cur D 0 s]) : AC Try.prog 71 [.is 1 (D.map encB)] [] K := by
  refine ac_body (ann []) [((997, 0), true), ((11, 0), true)] hm htt Try.func71 rfl (by kernel_rfl) rfl rfl ?_
  repeat' ((conv => whnf); first
    | (refine bF_dec (fun _ => ?_) (fun _ => ?_) <;> try (exfalso; omega))
    | (refine bF_eq (fun _ => ?_) (fun _ => ?_) <;> try (exfalso; omega))
    | (refine bF_ne (fun _ => ?_) (fun _ => ?_) <;> try (exfalso; omega))
    | (refine a64 (by omega) ?_)
    | (refine ix_at rfl (by omega) ?_)
    | (refine ⟨⟨rfl, by omega, by omega⟩, ?_⟩)
    | (refine map_at (by omega) ?_)
    | (refine alen ?_)
    | (refine amin ?_)
    | (refine amax ?_)
    | (refine ⟨⟨rfl, rfl, by simp [V.ments, mentsL]⟩, ?_⟩)
    | (refine map_at0 (by omega) ?_)
    | (refine set_at rfl ?_)
    | (refine map_atI (by omega) ?_)
    | (refine map_atI0 (by omega) ?_)
    | (refine set_atI rfl ?_)
    | (refine ⟨⟨by decide, rfl, by omega, by omega, by omega, by dsimp only; omega⟩, ?_⟩)
    | (refine arem (by omega) ?_)
    | (refine aquo (by omega) (by omega) ?_)
    | (refine au8 ?_)
    | (refine au64 (by omega) ?_)
    | (refine anat ?_)
    | (refine szOk rfl ?_)
    | (refine dvOk rfl (by omega) ?_)
    | (refine nzOk (by decide) ?_)
    | (refine lgOk (by kernel_rfl) ?_)
    | (refine kpOk (by kernel_rfl) ?_)
    | fail)
  all_goals conv => whnf
  exact hK _ ⟨hd, hl, by omega, by omega, by omega, by omega⟩
theorem cpick.ac (D : List Int) (k p s n : Int) (hc : CurI D k p s) (hk : k ≤ 1000000) {K : V → List Obj → List Obj → Prop} (hK : ∀ r p' s', CurI D (k + 1) p' s' → 0 ≤ r → (r < n ∨ r = 0) → K (iv r) [cur D p' s'] []) : AC Try.prog 73 [.lp (0,0) 3 0 0, iv n] [cur D p s] K := by
  have hp := hc.p0
  have hp2 := hc.pk
  have hs0 := hc.s0
  have hs1 := hc.s1
  have hl := hc.l
  have hm : (D.map encB).length = D.length := by rw [List.length_map]
  refine ac_body (ann []) [((0,0),true)] Go.Eng.T.hm htt Try.func73 rfl (by kernel_rfl) rfl rfl ?_
  conv => whnf
  refine vif_dec (fun h => ?_) (fun h => ?_)
  · conv => whnf
    exact hK 0 p s ⟨hc.d, hc.l, hp, by omega, hs0, hs1⟩ (by omega) (.inr rfl)
  conv => whnf
  refine ⟨by kernel_rfl, ?_⟩
  conv => whnf
  refine vif_dec (fun h2 => ?_) (fun h2 => ?_)
  · conv => whnf
    refine ⟨⟨rfl, by omega, by omega⟩, ?_⟩
    conv => whnf
    refine ⟨_, map_get (by omega), ?_⟩
    conv => whnf
    refine ⟨by kernel_rfl, ?_⟩
    conv => whnf
    refine ⟨⟨rfl, by omega⟩, ?_⟩
    conv => whnf
    have hb := hc.d.get p.toNat
    have ht := tmod_nn (x := D.getD p.toNat default) (y := n) hb.1 (by omega)
    have e := wrap_i64 (x := D.getD p.toNat default) (by omega)
    refine hK _ _ _ ⟨hc.d, hc.l, ?_, ?_, hs0, hs1⟩ ?_ (.inl ?_)
    · rw [wrap_i64 (by omega)]; omega
    · rw [wrap_i64 (by omega)]; omega
    · rw [e]; exact ht.1
    · rw [e]; exact ht.2
  · conv => whnf
    have ht := tmod_nn (x := s * 1103 + 12345) (y := 65521) (by omega) (by omega)
    have e1 := wrap_i64 (x := s * 1103) (by omega)
    have e2 := wrap_i64 (x := s * 1103 + 12345) (by omega)
    refine vif_dec (fun h3 => ?_) (fun h3 => ?_)
    · conv => whnf
      refine ⟨⟨rfl, by omega⟩, ?_⟩
      conv => whnf
      have hx := tmod_nn (x := p) (y := ((D.map encB).length : Int)) (by omega) (by omega)
      refine ⟨⟨rfl, hx.1, hx.2⟩, ?_⟩
      conv => whnf
      refine ⟨_, map_get hx, ?_⟩
      conv => whnf
      refine ⟨by kernel_rfl, ?_⟩
      conv => whnf
      refine ⟨⟨rfl, by omega⟩, ?_⟩
      conv => whnf
      rw [e1, e2]
      have hb := hc.d.get (p.tmod ((D.map encB).length : Int)).toNat
      generalize D.getD (p.tmod ((D.map encB).length : Int)).toNat default = b at hb ⊢
      generalize Int.tmod (s * 1103 + 12345) 65521 = q at ht ⊢
      have hq := tdiv_nn (x := q) (y := 7) (by omega) (by omega)
      rw [wrap_i64 (x := b) (by omega), wrap_i64 (x := q.tdiv 7) (by omega), wrap_i64 (x := q.tdiv 7 + b) (by omega), wrap_i64 (x := p + 1) (by omega)]
      have hr := tmod_nn (x := q.tdiv 7 + b) (y := n) (by omega) (by omega)
      exact hK _ _ _ ⟨hc.d, hc.l, by omega, by omega, by omega, by omega⟩ hr.1 (.inl hr.2)
    · conv => whnf
      refine ⟨⟨rfl, by omega⟩, ?_⟩
      conv => whnf
      rw [e1, e2, wrap_i64 (x := p + 1) (by omega)]
      exact hK _ _ _ ⟨hc.d, hc.l, by omega, by omega, by omega, by omega⟩ (by simp) (.inr (by simp))
theorem once.ac (D : List Int) (k p s n : Int) (hc : CurI D k p s) (hk : k ≤ 1000000) (hn : -1000000 ≤ n ∧ n ≤ 1000000) {K : V → List Obj → List Obj → Prop} (hK : ∀ r p' s', CurI D (k + 1) p' s' → K (bv r) [cur D p' s'] []) : AC Try.prog 77 [.lp (0,0) 3 0 0, iv n] [cur D p s] K := by
  refine ac_body (ann []) [((997, 0), true), ((0, 0), true)] hm htt Try.func77 rfl (by kernel_rfl) rfl rfl ?_
  repeat' ((conv => whnf); first
    | (refine cpick.ac D _ _ _ n ‹_› (by omega) fun r p' s' hc' h1 h2 => ?_)
    | (refine bF_dec (fun _ => ?_) (fun _ => ?_) <;> try (exfalso; omega))
    | (refine bF_eq (fun _ => ?_) (fun _ => ?_) <;> try (exfalso; omega))
    | (refine bF_ne (fun _ => ?_) (fun _ => ?_) <;> try (exfalso; omega))
    | (refine a64 (by omega) ?_)
    | (refine ix_at rfl (by omega) ?_)
    | (refine ⟨⟨rfl, by omega, by omega⟩, ?_⟩)
    | (refine map_at (by omega) ?_)
    | (refine alen ?_)
    | (refine amin ?_)
    | (refine amax ?_)
    | (refine ⟨⟨rfl, rfl, by simp [V.ments, mentsL]⟩, ?_⟩)
    | (refine map_at0 (by omega) ?_)
    | (refine set_at rfl ?_)
    | (refine map_atI (by omega) ?_)
    | (refine map_atI0 (by omega) ?_)
    | (refine set_atI rfl ?_)
    | (refine ⟨⟨by decide, rfl, by omega, by omega, by omega, by dsimp only; omega⟩, ?_⟩)
    | (refine arem (by omega) ?_)
    | (refine aquo (by omega) (by omega) ?_)
    | (refine au8 ?_)
    | (refine au64 (by omega) ?_)
    | (refine anat ?_)
    | (refine szOk rfl ?_)
    | (refine dvOk rfl (by omega) ?_)
    | (refine nzOk (by decide) ?_)
    | (refine lgOk (by kernel_rfl) ?_)
    | (refine kpOk (by kernel_rfl) ?_)
    | fail)
  all_goals conv => whnf
  all_goals exact hK _ _ _ ‹_›
theorem raw.ac (D : List Int) (k p s : Int) (hc : CurI D k p s) (hk : k ≤ 900000) {K : V → List Obj → List Obj → Prop} (hK : ∀ r p' s', CurI D (k + 2) p' s' → -9223372036854775808 ≤ r → r ≤ 9223372036854775807 → K (iv r) [cur D p' s'] []) : AC Try.prog 74 [.lp (0,0) 3 0 0] [cur D p s] K := by
  refine ac_body (ann []) [((0, 0), true), ((14, 0), false)] hm htt Try.func74 rfl (by kernel_rfl) rfl rfl ?_
  conv => whnf
  refine cpick.ac D k p s 8 hc (by omega) fun r p' s' hc' h1 h2 => ?_
  conv => whnf
  refine vif_bool (fun q => ?_) (fun q => ?_)
  · conv => whnf
    refine cpick.ac D (k + 1) p' s' 256 hc' (by omega) fun r2 p2 s2 hc2 h3 h4 => ?_
    conv => whnf
    exact hK _ _ _ (hc2.up (by omega)) (by rw [wrap_i64 (by omega)]; omega) (by rw [wrap_i64 (by omega)]; omega)
  conv => whnf
  refine vif_bool (fun q => ?_) (fun q => ?_)
  · conv => whnf
    refine cpick.ac D (k + 1) p' s' 8 hc' (by omega) fun r2 p2 s2 hc2 h3 h4 => ?_
    conv => whnf
    refine ⟨⟨rfl, by omega, by omega⟩, ?_⟩
    conv => whnf
    have h5 : r2 = 0 ∨ r2 = 1 ∨ r2 = 2 ∨ r2 = 3 ∨ r2 = 4 ∨ r2 = 5 ∨ r2 = 6 ∨ r2 = 7 := by omega
    rcases h5 with rfl | rfl | rfl | rfl | rfl | rfl | rfl | rfl
    all_goals
      refine ⟨rfl, _, rfl, ?_⟩
      conv => whnf
      exact hK _ _ _ (hc2.up (by omega)) (by decide) (by decide)
  · conv => whnf
    refine cpick.ac D (k + 1) p' s' 14 hc' (by omega) fun r2 p2 s2 hc2 h3 h4 => ?_
    conv => whnf
    exact hK _ _ _ (hc2.up (by omega)) (by rw [wrap_i64 (by omega)]; omega) (by rw [wrap_i64 (by omega)]; omega)
theorem cur_ments {D : List Int} {p s : Int} {j : Nat} : ∀ x ∈ [cur D p s], (1, j) ∉ x.ments := fun x hx => by
  rw [List.mem_singleton.1 hx]; simp [Obj.ments, mentsL, V.ments]
theorem cur_ments2 {D : List Int} {p s : Int} : ∀ x ∈ [cur D p s], ∀ j, (1, j) ∉ x.ments := fun x hx j => cur_ments x hx
theorem big2 (D : List Int) : Two 12 [.is 1 (D.map encB)] ((D.length : Int) > 1048576) := fun hT hF => by
  refine ac_body (ann []) [((997, 0), true)] hm htt Try.func12 rfl (by kernel_rfl) rfl rfl ?_
  repeat' ((conv => whnf); first
    | (refine bF_dec (fun _ => ?_) (fun _ => ?_) <;> try (exfalso; omega))
    | (refine bF_eq (fun _ => ?_) (fun _ => ?_) <;> try (exfalso; omega))
    | (refine bF_ne (fun _ => ?_) (fun _ => ?_) <;> try (exfalso; omega))
    | (refine a64 (by omega) ?_)
    | (refine ix_at rfl (by omega) ?_)
    | (refine ⟨⟨rfl, by omega, by omega⟩, ?_⟩)
    | (refine map_at (by omega) ?_)
    | (refine alen ?_)
    | (refine amin ?_)
    | (refine amax ?_)
    | (refine ⟨⟨rfl, rfl, by simp [V.ments, mentsL]⟩, ?_⟩)
    | (refine map_at0 (by omega) ?_)
    | (refine set_at rfl ?_)
    | (refine map_atI (by omega) ?_)
    | (refine map_atI0 (by omega) ?_)
    | (refine set_atI rfl ?_)
    | (refine ⟨⟨by decide, rfl, by omega, by omega, by omega, by dsimp only; omega⟩, ?_⟩)
    | (refine arem (by omega) ?_)
    | (refine aquo (by omega) (by omega) ?_)
    | (refine au8 ?_)
    | (refine au64 (by omega) ?_)
    | (refine anat ?_)
    | (refine szOk rfl ?_)
    | (refine dvOk rfl (by omega) ?_)
    | (refine nzOk (by decide) ?_)
    | (refine lgOk (by kernel_rfl) ?_)
    | (refine kpOk (by kernel_rfl) ?_)
    | fail)
  all_goals conv => whnf
  · exact hT ‹_›
  · exact hF ‹_›
theorem lpick.ac (D : List Int) (hd : Bytes D) (hl : D.length ≤ 1048576) (a n : Int) (ha : 0 ≤ a ∧ a ≤ 1000000) {K : V → List Obj → List Obj → Prop} (hK : ∀ r, 0 ≤ r → (r < n ∨ r = 0) → K (iv r) [] []) : AC Try.prog 14 [.is 1 (D.map encB), iv a, iv n] [] K := by
  have hb := fun i => hd.get i
  refine ac_body (ann [(5, [0, 1, 2, 7, 8], [])]) [((997, 0), true)] hm htt Try.func14 rfl (by kernel_rfl) rfl rfl ?_
  repeat' ((conv => whnf); first
    | (refine bF_dec (fun _ => ?_) (fun _ => ?_) <;> try (exfalso; omega))
    | (refine bF_eq (fun _ => ?_) (fun _ => ?_) <;> try (exfalso; omega))
    | (refine bF_ne (fun _ => ?_) (fun _ => ?_) <;> try (exfalso; omega))
    | (refine a64 (by omega) ?_)
    | (refine ix_at rfl (by omega) ?_)
    | (refine ⟨⟨rfl, by omega, by omega⟩, ?_⟩)
    | (refine map_at (by omega) ?_)
    | (refine alen ?_)
    | (refine amin ?_)
    | (refine amax ?_)
    | (refine ⟨⟨rfl, rfl, by simp [V.ments, mentsL]⟩, ?_⟩)
    | (refine map_at0 (by omega) ?_)
    | (refine set_at rfl ?_)
    | (refine map_atI (by omega) ?_)
    | (refine map_atI0 (by omega) ?_)
    | (refine set_atI rfl ?_)
    | (refine ⟨⟨by decide, rfl, by omega, by omega, by omega, by dsimp only; omega⟩, ?_⟩)
    | (refine arem (by omega) ?_)
    | (refine aquo (by omega) (by omega) ?_)
    | (refine au8 ?_)
    | (refine au64 (by omega) ?_)
    | (refine anat ?_)
    | (refine szOk rfl ?_)
    | (refine dvOk rfl (by omega) ?_)
    | (refine nzOk (by decide) ?_)
    | (refine lgOk (by kernel_rfl) ?_)
    | (refine kpOk (by kernel_rfl) ?_)
    | fail)
  all_goals conv => whnf
  · exact hK 0 (by omega) (.inr rfl)
  · exact hK 0 (by omega) (.inr rfl)
  refine cwF_loop (fun m st => ∃ (i : Nat) (x : Int), (m = 3 - i ∧ i ≤ 3 ∧ 0 ≤ x ∧ (i = 0 → x = 0) ∧ (i = 1 → x ≤ 255) ∧ (i = 2 → x ≤ 8160) ∧ (i = 3 → x ≤ 253215)) ∧
    st = ⟨[.is 1 (D.map encB), iv a, iv n, .un, .un, .un, .un, iv x, iv i] ++ List.replicate 29 .un, mkOb []⟩) 3 (by kernel_rfl) ⟨0, 0, ⟨rfl, by omega, by omega, by omega, by omega, by omega, by omega⟩, rfl⟩ ?_
  rintro m st ⟨i, x, ⟨rfl, i1, x0, xa, xb, xc, xd⟩, rfl⟩
  repeat' ((conv => whnf); first
    | (refine aremB (by omega) (by omega) fun r _ _ => ?_)
    | (refine map_atI (by omega) ?_; have hbr := hb r.toNat; generalize D.getD r.toNat default = b at hbr ⊢)
    | (refine bF_dec (fun _ => ?_) (fun _ => ?_) <;> try (exfalso; omega))
    | (refine bF_eq (fun _ => ?_) (fun _ => ?_) <;> try (exfalso; omega))
    | (refine bF_ne (fun _ => ?_) (fun _ => ?_) <;> try (exfalso; omega))
    | (refine a64 (by omega) ?_)
    | (refine ix_at rfl (by omega) ?_)
    | (refine ⟨⟨rfl, by omega, by omega⟩, ?_⟩)
    | (refine map_at (by omega) ?_)
    | (refine alen ?_)
    | (refine amin ?_)
    | (refine amax ?_)
    | (refine ⟨⟨rfl, rfl, by simp [V.ments, mentsL]⟩, ?_⟩)
    | (refine map_at0 (by omega) ?_)
    | (refine set_at rfl ?_)
    | (refine map_atI (by omega) ?_)
    | (refine map_atI0 (by omega) ?_)
    | (refine set_atI rfl ?_)
    | (refine ⟨⟨by decide, rfl, by omega, by omega, by omega, by dsimp only; omega⟩, ?_⟩)
    | (refine arem (by omega) ?_)
    | (refine aquo (by omega) (by omega) ?_)
    | (refine au8 ?_)
    | (refine au64 (by omega) ?_)
    | (refine anat ?_)
    | (refine szOk rfl ?_)
    | (refine dvOk rfl (by omega) ?_)
    | (refine nzOk (by decide) ?_)
    | (refine lgOk (by kernel_rfl) ?_)
    | (refine kpOk (by kernel_rfl) ?_)
    | fail)
  all_goals conv => whnf
  · exact ⟨3 - (i + 1), by omega, i + 1, _, ⟨rfl, by omega, by omega, by omega, by omega, by omega, by omega⟩, rfl⟩
  · exact hK _ (by omega) (.inl (by omega))
end Go.Eng.T
