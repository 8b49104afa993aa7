import Derived.Test.YtpfmaiiolifblaaXAgS3
namespace Go.Eng.T
open Go.Proofs Go.Eng
set_option maxRecDepth 100000
set_option maxHeartbeats 0

theorem TopOfS.nil2 (a : List Int) (la : a.length ≤ 100000) {K : V → List Obj → List Obj → Prop} (hK : K (.is 1 ((top4 a).map iv)) [] []) : AC Try.prog 139 [.is 1 (a.map iv), nilS] [] K := by
  refine AC.args (ys := [.is 1 (a.map iv), .is 1 (([] : List Int).map iv)]) rfl (fun i y hy => ?_) (TopOfS.ac a [] la (by simp) (by rw [List.append_nil]; exact hK))
  match i, hy with
  | 0, hy => exact ⟨y, hy, fun h => h⟩
  | 1, hy => obtain rfl : V.is 1 (([] : List Int).map iv) = y := by simpa using hy
             exact ⟨_, rfl, fun h => nil_is h⟩
theorem wcmp_ge {a b : Int} : wcmp a b ≥ 0 ↔ b ≤ a := by unfold wcmp; (repeat' split) <;> omega
theorem wcmp_le {a b : Int} : wcmp a b ≤ 0 ↔ a ≤ b := by unfold wcmp; (repeat' split) <;> omega
theorem sum4 {l : List Int} (h : Ints l) (hl : l.length ≤ 4) : -36893488147419103232 ≤ sumL l ∧ sumL l ≤ 36893488147419103232 := by
  have h1 := sum_le (l := l) (m := 9223372036854775807) fun x hx => (h x hx).2
  have h2 := le_sum (l := l) (m := -9223372036854775808) fun x hx => (h x hx).1
  omega
theorem agOk_sorted {a : Ag} (hn : 1 ≤ a.n) (hl : a.top.length ≤ 4) (h : AgOk a) : top4 a.top = a.top := top4_self (h.2.2.2 hn).1 hl
theorem getD_def {l : List Int} {i : Nat} : l.getD i default = l.getD i 0 := rfl
theorem AgOk_iff (n s mn mx : Int) (top : List Int) : AgOk ⟨n, s, mn, mx, top⟩ ↔ ((0 ≤ n ∧ n ≤ 1000000) ∧ (top.length : Int) = min n 4 ∧ (n = 0 → s = 0 ∧ mn = 0 ∧ mx = 0) ∧ (1 ≤ n → (top.Pairwise fun x y => y ≤ x) ∧ top.getD 0 0 = mx ∧ mn ≤ top.getD (top.length - 1) 0 ∧ (n ≤ 4 → mn = top.getD (top.length - 1) 0 ∧ s = sumL top) ∧ (5 ≤ n → sumL top + (n - 4) * mn ≤ s ∧ s ≤ sumL top + mn + (n - 5) * top.getD 3 0))) := Iff.rfl
theorem wzero {s : Int} (hs : R127 s) : (whi s == 0 && (wlo s == 0 && true)) = true ↔ s = 0 := by
  constructor
  · intro h
    have h2 : whi s = 0 ∧ wlo s = 0 := by simpa using h
    exact weq hs (R127_i64 (by decide)) h2.1 h2.2
  · rintro rfl; rfl
theorem wsame {s x : Int} (hs : R127 s) (hx : R127 x) : (whi s == whi x && (wlo s == wlo x && true)) = true ↔ s = x := by
  constructor
  · intro h
    have h2 : whi s = whi x ∧ wlo s = wlo x := by simpa using h
    exact weq hs hx h2.1 h2.2
  · rintro rfl; simp
theorem AggOkS2 (n s mn mx : Int) (top : List Int) (hn : I64 n) (hs : R127 s) (hmn : I64 mn) (hmx : I64 mx) (ht : Ints top) (htl : top.length ≤ 100000) : Two 142 [.agg [iv n, iv (whi s), uv (wlo s), iv mn, iv mx, .is 1 (top.map iv)]] (AgOk ⟨n, s, mn, mx, top⟩) := fun hT hF => by
  have hlm : (top.map iv).length = top.length := List.length_map ..
  have key := AgOk_iff n s mn mx top
  refine ac_body (ann [(9, [1, 3, 4], [(3, 0), (5, 0)])]) [((997, 0), true), ((3, 0), true), ((5, 0), true), ((8, 0), true), ((9, 0), true)] hm htt Try.func142 rfl (by kernel_rfl) rfl rfl ?_
  repeat' ((conv => whnf); first
    | (refine TopOfS.nil2 _ htl ?_)
    | (refine l07Same2 _ _ (by rw [top4_length]; omega) (by omega) (fun _ => ?_) (fun _ => ?_))
    | (refine bF_dec (fun _ => ?_) (fun _ => ?_) <;> try (exfalso; omega))
    | (refine bF_eq (fun _ => ?_) (fun _ => ?_) <;> try (exfalso; omega))
    | (refine bF_ne (fun _ => ?_) (fun _ => ?_) <;> try (exfalso; omega))
    | (refine a64 (by omega) ?_)
    | (refine ix_at rfl (by omega) ?_)
    | (refine ⟨⟨rfl, by omega, by omega⟩, ?_⟩)
    | (refine map_at (by omega) ?_)
    | (refine alen ?_)
    | (refine amin ?_)
    | (refine amax ?_)
    | (refine ⟨⟨rfl, rfl, by simp [V.ments, mentsL]⟩, ?_⟩)
    | (refine map_at0 (by omega) ?_)
    | (refine set_at rfl ?_)
    | (refine map_atI (by omega) ?_)
    | (refine map_atI0 (by omega) ?_)
    | (refine set_atI rfl ?_)
    | (refine ⟨⟨by decide, rfl, by omega, by omega, by omega, by dsimp only; omega⟩, ?_⟩)
    | (refine arem (by omega) ?_)
    | (refine aquo (by omega) (by omega) ?_)
    | (refine au8 ?_)
    | (refine au64 (by omega) ?_)
    | (refine anat ?_)
    | (refine szOk rfl ?_)
    | (refine dvOk rfl (by omega) ?_)
    | (refine nzOk (by decide) ?_)
    | (refine lgOk (by kernel_rfl) ?_)
    | (refine kpOk (by kernel_rfl) ?_)
    | fail)
  all_goals conv => whnf
  · exact hF fun h => by have := (key.1 h).1; omega
  · exact hF fun h => by have := (key.1 h).1; omega
  · exact hF fun h => by have := (key.1 h).2.1; omega
  · generalize hb : (whi s == 0 && (wlo s == 0 && true)) = b
    rw [← Bool.coe_iff_coe] at hb
    rename_i h1 h2 h3 h4
    cases b
    · have hs0 : s ≠ 0 := fun h => by have := hb.1 ((wzero hs).2 h); cases this
      repeat' ((conv => whnf); first
        | (refine bF_dec (fun _ => ?_) (fun _ => ?_) <;> try (exfalso; omega))
        | (refine bF_eq (fun _ => ?_) (fun _ => ?_) <;> try (exfalso; omega))
        | (refine bF_ne (fun _ => ?_) (fun _ => ?_) <;> try (exfalso; omega))
        | (refine a64 (by omega) ?_)
        | (refine ix_at rfl (by omega) ?_)
        | (refine ⟨⟨rfl, by omega, by omega⟩, ?_⟩)
        | (refine map_at (by omega) ?_)
        | (refine alen ?_)
        | (refine amin ?_)
        | (refine amax ?_)
        | (refine ⟨⟨rfl, rfl, by simp [V.ments, mentsL]⟩, ?_⟩)
        | (refine map_at0 (by omega) ?_)
        | (refine set_at rfl ?_)
        | (refine map_atI (by omega) ?_)
        | (refine map_atI0 (by omega) ?_)
        | (refine set_atI rfl ?_)
        | (refine ⟨⟨by decide, rfl, by omega, by omega, by omega, by dsimp only; omega⟩, ?_⟩)
        | (refine arem (by omega) ?_)
        | (refine aquo (by omega) (by omega) ?_)
        | (refine au8 ?_)
        | (refine au64 (by omega) ?_)
        | (refine anat ?_)
        | (refine szOk rfl ?_)
        | (refine dvOk rfl (by omega) ?_)
        | (refine nzOk (by decide) ?_)
        | (refine lgOk (by kernel_rfl) ?_)
        | (refine kpOk (by kernel_rfl) ?_)
        | fail)
      all_goals conv => whnf
      exact hF fun h => hs0 ((key.1 h).2.2.1 h4).1
    · have hs0 : s = 0 := (wzero hs).1 (hb.2 rfl)
      repeat' ((conv => whnf); first
        | (refine bF_dec (fun _ => ?_) (fun _ => ?_) <;> try (exfalso; omega))
        | (refine bF_eq (fun _ => ?_) (fun _ => ?_) <;> try (exfalso; omega))
        | (refine bF_ne (fun _ => ?_) (fun _ => ?_) <;> try (exfalso; omega))
        | (refine a64 (by omega) ?_)
        | (refine ix_at rfl (by omega) ?_)
        | (refine ⟨⟨rfl, by omega, by omega⟩, ?_⟩)
        | (refine map_at (by omega) ?_)
        | (refine alen ?_)
        | (refine amin ?_)
        | (refine amax ?_)
        | (refine ⟨⟨rfl, rfl, by simp [V.ments, mentsL]⟩, ?_⟩)
        | (refine map_at0 (by omega) ?_)
        | (refine set_at rfl ?_)
        | (refine map_atI (by omega) ?_)
        | (refine map_atI0 (by omega) ?_)
        | (refine set_atI rfl ?_)
        | (refine ⟨⟨by decide, rfl, by omega, by omega, by omega, by dsimp only; omega⟩, ?_⟩)
        | (refine arem (by omega) ?_)
        | (refine aquo (by omega) (by omega) ?_)
        | (refine au8 ?_)
        | (refine au64 (by omega) ?_)
        | (refine anat ?_)
        | (refine szOk rfl ?_)
        | (refine dvOk rfl (by omega) ?_)
        | (refine nzOk (by decide) ?_)
        | (refine lgOk (by kernel_rfl) ?_)
        | (refine kpOk (by kernel_rfl) ?_)
        | fail)
      all_goals conv => whnf
      all_goals first
        | exact hT (key.2 ⟨by omega, h3, fun _ => ⟨hs0, by omega, by omega⟩, fun h => absurd h (by omega)⟩)
        | exact hF fun h => by have := (key.1 h).2.2.1 h4; omega
  · rename_i h1 h2 h3 h4 h5 h6
    exact hF fun h => h6 ((key.1 h).2.2.2 (by omega)).2.1
  · rename_i h1 h2 h3 h4 h5 h6 h7
    have e7 : (((top.length : Nat) : Int) - 1).toNat = top.length - 1 := by omega
    rw [e7] at h7
    exact hF fun h => by have := ((key.1 h).2.2.2 (by omega)).2.2.1; rw [getD_def] at h7; omega
  rotate_left
  · rename_i h1 h2 h3 h4 h5
    exact hF fun h => h5 (top4_self ((key.1 h).2.2.2 (by omega)).1 (by omega))
  rename_i h1 h2 h3 h4 h5 h6 h7
  have hpw : top.Pairwise fun x y => y ≤ x := by rw [← h5]; exact top4_sorted top
  have e7 : (((top.length : Nat) : Int) - 1).toNat = top.length - 1 := by omega
  rw [e7, getD_def] at h7
  have hsm := sum4 ht (by omega)
  have hR : R127 (sumL top) := by unfold R127; omega
  refine cwF_loop (fun m st => ∃ (i : Nat) (x : Int), (m = top.length - i ∧ i ≤ top.length ∧ x = sumL (top.take i)) ∧
    st = ⟨[.un, .lp (3, 0) 6 0 0, .un, .lp (5, 0) 2 0 0, iv i] ++ List.replicate 138 .un, mkOb [((3, 0), some (.arr false 6 [.agg [iv n, iv (whi s), uv (wlo s), iv mn, iv mx, .is 1 (top.map iv)]])), ((5, 0), some (.arr false 2 [wv x]))]⟩) top.length (by kernel_rfl) ⟨0, 0, ⟨rfl, by omega, rfl⟩, rfl⟩ ?_
  rintro m st ⟨i, x, ⟨rfl, hi, hx⟩, rfl⟩
  have e4 : i = top.length → x = sumL top := fun h => by rw [hx, h, List.take_length]
  have hm0 : I64 mn := hmn
  have hq1 : (n : Int) - top.length ≠ 0 → -9223372036854775808000000 ≤ (n - (top.length : Int)) * mn ∧ (n - (top.length : Int)) * mn ≤ 9223372036854775808000000 := fun h => mulR (by omega) hm0
  have hq2 : (n : Int) - top.length ≠ 0 → -9223372036854775808000000 ≤ (n - (top.length : Int) - 1) * top.getD (Int.toNat 3) default ∧ (n - (top.length : Int) - 1) * top.getD (Int.toNat 3) default ≤ 9223372036854775808000000 := fun h => mulR (by omega) (ht.get _)
  have hg3 := ht.get (Int.toNat 3)
  unfold I64 at hmn hn
  repeat' ((conv => whnf); first
    | (refine WideOfS.ac _ (ht.get _) ?_)
    | (refine WideAddS.ac _ _ ?_)
    | (refine bF_dec (fun _ => ?_) (fun _ => ?_) <;> try (exfalso; omega))
    | (refine bF_eq (fun _ => ?_) (fun _ => ?_) <;> try (exfalso; omega))
    | (refine bF_ne (fun _ => ?_) (fun _ => ?_) <;> try (exfalso; omega))
    | (refine a64 (by omega) ?_)
    | (refine ix_at rfl (by omega) ?_)
    | (refine ⟨⟨rfl, by omega, by omega⟩, ?_⟩)
    | (refine map_at (by omega) ?_)
    | (refine alen ?_)
    | (refine amin ?_)
    | (refine amax ?_)
    | (refine ⟨⟨rfl, rfl, by simp [V.ments, mentsL]⟩, ?_⟩)
    | (refine map_at0 (by omega) ?_)
    | (refine set_at rfl ?_)
    | (refine map_atI (by omega) ?_)
    | (refine map_atI0 (by omega) ?_)
    | (refine set_atI rfl ?_)
    | (refine ⟨⟨by decide, rfl, by omega, by omega, by omega, by dsimp only; omega⟩, ?_⟩)
    | (refine arem (by omega) ?_)
    | (refine aquo (by omega) (by omega) ?_)
    | (refine au8 ?_)
    | (refine au64 (by omega) ?_)
    | (refine anat ?_)
    | (refine szOk rfl ?_)
    | (refine dvOk rfl (by omega) ?_)
    | (refine nzOk (by decide) ?_)
    | (refine lgOk (by kernel_rfl) ?_)
    | (refine kpOk (by kernel_rfl) ?_)
    | fail)
  all_goals conv => whnf
  · exact ⟨top.length - (i + 1), by omega, i + 1, _, ⟨rfl, by omega, by rw [← take_succD (by omega : i < top.length), sumL_append, hx]; simp [sumL]⟩, rfl⟩
  · rename_i c1 c2 c3
    have hxs := e4 (by omega)
    subst hxs
    rw [e7, getD_def] at c3
    generalize hb : (whi s == whi (sumL top) && (wlo s == wlo (sumL top) && true)) = b
    rw [← Bool.coe_iff_coe] at hb
    cases b
    · have hs0 : s ≠ sumL top := fun h => by have := hb.1 ((wsame hs hR).2 h); cases this
      repeat' ((conv => whnf); first
        | (refine bF_dec (fun _ => ?_) (fun _ => ?_) <;> try (exfalso; omega))
        | (refine bF_eq (fun _ => ?_) (fun _ => ?_) <;> try (exfalso; omega))
        | (refine bF_ne (fun _ => ?_) (fun _ => ?_) <;> try (exfalso; omega))
        | (refine a64 (by omega) ?_)
        | (refine ix_at rfl (by omega) ?_)
        | (refine ⟨⟨rfl, by omega, by omega⟩, ?_⟩)
        | (refine map_at (by omega) ?_)
        | (refine alen ?_)
        | (refine amin ?_)
        | (refine amax ?_)
        | (refine ⟨⟨rfl, rfl, by simp [V.ments, mentsL]⟩, ?_⟩)
        | (refine map_at0 (by omega) ?_)
        | (refine set_at rfl ?_)
        | (refine map_atI (by omega) ?_)
        | (refine map_atI0 (by omega) ?_)
        | (refine set_atI rfl ?_)
        | (refine ⟨⟨by decide, rfl, by omega, by omega, by omega, by dsimp only; omega⟩, ?_⟩)
        | (refine arem (by omega) ?_)
        | (refine aquo (by omega) (by omega) ?_)
        | (refine au8 ?_)
        | (refine au64 (by omega) ?_)
        | (refine anat ?_)
        | (refine szOk rfl ?_)
        | (refine dvOk rfl (by omega) ?_)
        | (refine nzOk (by decide) ?_)
        | (refine lgOk (by kernel_rfl) ?_)
        | (refine kpOk (by kernel_rfl) ?_)
        | fail)
      all_goals conv => whnf
      exact hF fun h => hs0 (((key.1 h).2.2.2 (by omega)).2.2.2.1 (by omega)).2
    · have hs0 : s = sumL top := (wsame hs hR).1 (hb.2 rfl)
      repeat' ((conv => whnf); first
        | (refine bF_dec (fun _ => ?_) (fun _ => ?_) <;> try (exfalso; omega))
        | (refine bF_eq (fun _ => ?_) (fun _ => ?_) <;> try (exfalso; omega))
        | (refine bF_ne (fun _ => ?_) (fun _ => ?_) <;> try (exfalso; omega))
        | (refine a64 (by omega) ?_)
        | (refine ix_at rfl (by omega) ?_)
        | (refine ⟨⟨rfl, by omega, by omega⟩, ?_⟩)
        | (refine map_at (by omega) ?_)
        | (refine alen ?_)
        | (refine amin ?_)
        | (refine amax ?_)
        | (refine ⟨⟨rfl, rfl, by simp [V.ments, mentsL]⟩, ?_⟩)
        | (refine map_at0 (by omega) ?_)
        | (refine set_at rfl ?_)
        | (refine map_atI (by omega) ?_)
        | (refine map_atI0 (by omega) ?_)
        | (refine set_atI rfl ?_)
        | (refine ⟨⟨by decide, rfl, by omega, by omega, by omega, by dsimp only; omega⟩, ?_⟩)
        | (refine arem (by omega) ?_)
        | (refine aquo (by omega) (by omega) ?_)
        | (refine au8 ?_)
        | (refine au64 (by omega) ?_)
        | (refine anat ?_)
        | (refine szOk rfl ?_)
        | (refine dvOk rfl (by omega) ?_)
        | (refine nzOk (by decide) ?_)
        | (refine lgOk (by kernel_rfl) ?_)
        | (refine kpOk (by kernel_rfl) ?_)
        | fail)
      all_goals conv => whnf
      exact hT (key.2 ⟨by omega, by omega, fun h => absurd h (by omega), fun _ => ⟨hpw, by assumption, by omega, fun _ => ⟨c3, hs0⟩, fun h => absurd h (by omega)⟩⟩)
  · rename_i c1 c2 c3
    rw [e7, getD_def] at c3
    exact hF fun h => c3 (((key.1 h).2.2.2 (by omega)).2.2.2.1 (by omega)).1
  rename_i c1 c2
  have hxs := e4 (by omega)
  subst hxs
  have hq1 := hq1 c2
  have hq2 := hq2 c2
  have hg4 : -9223372036854775808 ≤ top.getD (Int.toNat 3) default ∧ top.getD (Int.toNat 3) default ≤ 9223372036854775807 := hg3
  have hR1 : R127 (sumL top + (n - (top.length : Int)) * mn) := by unfold R127; omega
  have hR2 : R127 (sumL top + mn + (n - (top.length : Int) - 1) * top.getD (Int.toNat 3) default) := by unfold R127; omega
  have e5 : (top.length : Int) = 4 := by omega
  have e6 : n - 4 - 1 = n - 5 := by omega
  repeat' ((conv => whnf); first
    | (refine l07Times.ac _ _ (by unfold I64; omega) hm0 ?_)
    | (refine l07Times.ac _ _ (by unfold I64; omega) hg3 ?_)
    | (refine WideOfS.ac _ hm0 ?_)
    | (refine WideAddS.ac _ _ ?_)
    | (refine WideCmpS.ac _ _ hs hR1 ?_)
    | (refine WideCmpS.ac _ _ hs hR2 ?_)
    | (refine bF_dec (fun _ => ?_) (fun _ => ?_) <;> try (exfalso; omega))
    | (refine bF_eq (fun _ => ?_) (fun _ => ?_) <;> try (exfalso; omega))
    | (refine bF_ne (fun _ => ?_) (fun _ => ?_) <;> try (exfalso; omega))
    | (refine a64 (by omega) ?_)
    | (refine ix_at rfl (by omega) ?_)
    | (refine ⟨⟨rfl, by omega, by omega⟩, ?_⟩)
    | (refine map_at (by omega) ?_)
    | (refine alen ?_)
    | (refine amin ?_)
    | (refine amax ?_)
    | (refine ⟨⟨rfl, rfl, by simp [V.ments, mentsL]⟩, ?_⟩)
    | (refine map_at0 (by omega) ?_)
    | (refine set_at rfl ?_)
    | (refine map_atI (by omega) ?_)
    | (refine map_atI0 (by omega) ?_)
    | (refine set_atI rfl ?_)
    | (refine ⟨⟨by decide, rfl, by omega, by omega, by omega, by dsimp only; omega⟩, ?_⟩)
    | (refine arem (by omega) ?_)
    | (refine aquo (by omega) (by omega) ?_)
    | (refine au8 ?_)
    | (refine au64 (by omega) ?_)
    | (refine anat ?_)
    | (refine szOk rfl ?_)
    | (refine dvOk rfl (by omega) ?_)
    | (refine nzOk (by decide) ?_)
    | (refine lgOk (by kernel_rfl) ?_)
    | (refine kpOk (by kernel_rfl) ?_)
    | fail)
  all_goals conv => whnf
  · rename_i d1 d2
    simp only [wcmp_ge, wcmp_le, e5, e6] at d1 d2
    exact hT (key.2 ⟨by omega, by omega, fun h => absurd h (by omega), fun _ => ⟨hpw, by assumption, by omega, fun h => absurd h (by omega), fun _ => ⟨d1, d2⟩⟩⟩)
  · rename_i d1 d2
    simp only [wcmp_le, e5, e6] at d2
    exact hF fun h => d2 (((key.1 h).2.2.2 (by omega)).2.2.2.2 (by omega)).2
  · rename_i d1
    simp only [wcmp_ge, e5] at d1
    exact hF fun h => d1 (((key.1 h).2.2.2 (by omega)).2.2.2.2 (by omega)).1
end Go.Eng.T
