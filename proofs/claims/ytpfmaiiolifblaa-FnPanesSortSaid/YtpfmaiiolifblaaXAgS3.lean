import Derived.Test.YtpfmaiiolifblaaXAgS2
namespace Go.Eng.T
open Go.Proofs Go.Eng
set_option maxRecDepth 100000
set_option maxHeartbeats 0

theorem bits_step {x at' w : Int} (h : x % 2 = 1) : w + at' + (at' + at') * (x / 2) = w + at' * x := by
  have h2 : x = 2 * (x / 2) + 1 := by omega
  conv => rhs; rw [h2]
  rw [Int.mul_add, Int.mul_one, ← Int.mul_assoc, Int.add_mul, Int.mul_comm at' 2, Int.two_mul, Int.add_mul]; omega
theorem bits_skip {x at' w : Int} (h : x % 2 ≠ 1) : w + (at' + at') * (x / 2) = w + at' * x := by
  have h2 : x = 2 * (x / 2) := by omega
  conv => rhs; rw [h2]
  rw [← Int.mul_assoc, Int.mul_comm at' 2, Int.two_mul]
theorem uquo {x y : Int} {K : Int → Prop} (h : 0 ≤ x ∧ x ≤ 18446744073709551615) (hy : 0 < y) (k : K (x / y)) : ∀ r, r = IntKind.u64.wrap (x.tdiv y) → K r := fun r hr => by
  have h1 : 0 ≤ x / y := Int.ediv_nonneg h.1 (by omega)
  have h2 : x / y ≤ x := Int.ediv_le_self _ h.1
  rw [Int.tdiv_eq_ediv_of_nonneg h.1, wrap_u64 (by omega)] at hr
  rw [hr]; exact k
theorem mulR {n x : Int} (hn : 0 ≤ n ∧ n ≤ 1000000) (hx : I64 x) : -9223372036854775808000000 ≤ n * x ∧ n * x ≤ 9223372036854775808000000 := by
  unfold I64 at hx
  have h1 : n * x ≤ n * 9223372036854775808 := Int.mul_le_mul_of_nonneg_left (by omega) hn.1
  have h2 : n * (-9223372036854775808) ≤ n * x := Int.mul_le_mul_of_nonneg_left (by omega) hn.1
  omega
theorem l03Times.ac (a b : Int) (ha : I64 a) (hb : I64 b) {K : V → List Obj → List Obj → Prop} (hK : K (wv (a * b)) [] []) : AC Try.prog 220 [iv a, iv b] [] K := by
  have hK' : ∀ w, w = a * b → K (wv w) [] [] := by rintro _ rfl; exact hK
  unfold I64 at hb
  refine ac_body (ann [(7, [4, 5, 6, 7], [(6, 0), (7, 0), (8, 0)])]) [((997, 0), true), ((6, 0), true), ((7, 0), true), ((8, 0), true)] hm htt Try.func220 rfl (by kernel_rfl) rfl rfl ?_
  repeat' ((conv => whnf); first
    | (refine WideOfS.ac _ ha ?_)
    | (refine au64M fun r hr => ?_)
    | (refine WideNegS.ac _ ?_)
    | (refine bF_dec (fun _ => ?_) (fun _ => ?_) <;> try (exfalso; omega))
    | (refine bF_eq (fun _ => ?_) (fun _ => ?_) <;> try (exfalso; omega))
    | (refine bF_ne (fun _ => ?_) (fun _ => ?_) <;> try (exfalso; omega))
    | (refine a64 (by omega) ?_)
    | (refine ix_at rfl (by omega) ?_)
    | (refine ⟨⟨rfl, by omega, by omega⟩, ?_⟩)
    | (refine map_at (by omega) ?_)
    | (refine alen ?_)
    | (refine amin ?_)
    | (refine amax ?_)
    | (refine ⟨⟨rfl, rfl, by simp [V.ments, mentsL]⟩, ?_⟩)
    | (refine map_at0 (by omega) ?_)
    | (refine set_at rfl ?_)
    | (refine map_atI (by omega) ?_)
    | (refine map_atI0 (by omega) ?_)
    | (refine set_atI rfl ?_)
    | (refine ⟨⟨by decide, rfl, by omega, by omega, by omega, by dsimp only; omega⟩, ?_⟩)
    | (refine arem (by omega) ?_)
    | (refine aquo (by omega) (by omega) ?_)
    | (refine au8 ?_)
    | (refine au64 (by omega) ?_)
    | (refine anat ?_)
    | (refine szOk rfl ?_)
    | (refine dvOk rfl (by omega) ?_)
    | (refine nzOk (by decide) ?_)
    | (refine lgOk (by kernel_rfl) ?_)
    | (refine kpOk (by kernel_rfl) ?_)
    | fail)
  all_goals conv => whnf
  · refine cwF_loop (fun m st => ∃ (w t x : Int), (m = x.toNat ∧ 0 ≤ x ∧ x ≤ 18446744073709551615 ∧ w + t * x = a * b) ∧
      st = ⟨[.un, .un, .un, .un, .lp (6, 0) 2 0 0, .lp (7, 0) 2 0 0, .lp (8, 0) 2 0 0, uv x] ++ List.replicate 25 .un, mkOb [((6, 0), some (.arr false 2 [.agg [iv 0, uv 0]])), ((7, 0), some (.arr false 2 [wv w])), ((8, 0), some (.arr false 2 [wv t]))]⟩) r.toNat (by kernel_rfl) ⟨0, -a, r, ⟨rfl, by omega, by omega, by rw [show r = -b by omega, Int.neg_mul_neg]; omega⟩, rfl⟩ ?_
    rintro m st ⟨w, t, x, ⟨rfl, x0, x1, e⟩, rfl⟩
    repeat' ((conv => whnf); first
      | (refine WideAddS.ac _ _ ?_)
      | (refine uquo (by omega) (by omega) ?_)
      | (refine bF_dec (fun _ => ?_) (fun _ => ?_) <;> try (exfalso; omega))
      | (refine bF_eq (fun _ => ?_) (fun _ => ?_) <;> try (exfalso; omega))
      | (refine bF_ne (fun _ => ?_) (fun _ => ?_) <;> try (exfalso; omega))
      | (refine a64 (by omega) ?_)
      | (refine ix_at rfl (by omega) ?_)
      | (refine ⟨⟨rfl, by omega, by omega⟩, ?_⟩)
      | (refine map_at (by omega) ?_)
      | (refine alen ?_)
      | (refine amin ?_)
      | (refine amax ?_)
      | (refine ⟨⟨rfl, rfl, by simp [V.ments, mentsL]⟩, ?_⟩)
      | (refine map_at0 (by omega) ?_)
      | (refine set_at rfl ?_)
      | (refine map_atI (by omega) ?_)
      | (refine map_atI0 (by omega) ?_)
      | (refine set_atI rfl ?_)
      | (refine ⟨⟨by decide, rfl, by omega, by omega, by omega, by dsimp only; omega⟩, ?_⟩)
      | (refine arem (by omega) ?_)
      | (refine aquo (by omega) (by omega) ?_)
      | (refine au8 ?_)
      | (refine au64 (by omega) ?_)
      | (refine anat ?_)
      | (refine szOk rfl ?_)
      | (refine dvOk rfl (by omega) ?_)
      | (refine nzOk (by decide) ?_)
      | (refine lgOk (by kernel_rfl) ?_)
      | (refine kpOk (by kernel_rfl) ?_)
      | fail)
    all_goals conv => whnf
    · rename_i hx hodd
      exact ⟨(x / 2).toNat, by omega, _, _, x / 2, ⟨rfl, by omega, by omega, by rw [bits_step hodd]; exact e⟩, rfl⟩
    · rename_i hx hodd
      exact ⟨(x / 2).toNat, by omega, _, _, x / 2, ⟨rfl, by omega, by omega, by rw [bits_skip hodd]; exact e⟩, rfl⟩
    · have : x = 0 := by omega
      subst this
      exact hK' _ (by rw [Int.mul_zero] at e; omega)
  · refine cwF_loop (fun m st => ∃ (w t x : Int), (m = x.toNat ∧ 0 ≤ x ∧ x ≤ 18446744073709551615 ∧ w + t * x = a * b) ∧
      st = ⟨[.un, .un, .un, .un, .lp (6, 0) 2 0 0, .lp (7, 0) 2 0 0, .lp (8, 0) 2 0 0, uv x] ++ List.replicate 25 .un, mkOb [((6, 0), some (.arr false 2 [.agg [iv 0, uv 0]])), ((7, 0), some (.arr false 2 [wv w])), ((8, 0), some (.arr false 2 [wv t]))]⟩) r.toNat (by kernel_rfl) ⟨0, a, r, ⟨rfl, by omega, by omega, by rw [show r = b by omega]; omega⟩, rfl⟩ ?_
    rintro m st ⟨w, t, x, ⟨rfl, x0, x1, e⟩, rfl⟩
    repeat' ((conv => whnf); first
      | (refine WideAddS.ac _ _ ?_)
      | (refine uquo (by omega) (by omega) ?_)
      | (refine bF_dec (fun _ => ?_) (fun _ => ?_) <;> try (exfalso; omega))
      | (refine bF_eq (fun _ => ?_) (fun _ => ?_) <;> try (exfalso; omega))
      | (refine bF_ne (fun _ => ?_) (fun _ => ?_) <;> try (exfalso; omega))
      | (refine a64 (by omega) ?_)
      | (refine ix_at rfl (by omega) ?_)
      | (refine ⟨⟨rfl, by omega, by omega⟩, ?_⟩)
      | (refine map_at (by omega) ?_)
      | (refine alen ?_)
      | (refine amin ?_)
      | (refine amax ?_)
      | (refine ⟨⟨rfl, rfl, by simp [V.ments, mentsL]⟩, ?_⟩)
      | (refine map_at0 (by omega) ?_)
      | (refine set_at rfl ?_)
      | (refine map_atI (by omega) ?_)
      | (refine map_atI0 (by omega) ?_)
      | (refine set_atI rfl ?_)
      | (refine ⟨⟨by decide, rfl, by omega, by omega, by omega, by dsimp only; omega⟩, ?_⟩)
      | (refine arem (by omega) ?_)
      | (refine aquo (by omega) (by omega) ?_)
      | (refine au8 ?_)
      | (refine au64 (by omega) ?_)
      | (refine anat ?_)
      | (refine szOk rfl ?_)
      | (refine dvOk rfl (by omega) ?_)
      | (refine nzOk (by decide) ?_)
      | (refine lgOk (by kernel_rfl) ?_)
      | (refine kpOk (by kernel_rfl) ?_)
      | fail)
    all_goals conv => whnf
    · rename_i hx hodd
      exact ⟨(x / 2).toNat, by omega, _, _, x / 2, ⟨rfl, by omega, by omega, by rw [bits_step hodd]; exact e⟩, rfl⟩
    · rename_i hx hodd
      exact ⟨(x / 2).toNat, by omega, _, _, x / 2, ⟨rfl, by omega, by omega, by rw [bits_skip hodd]; exact e⟩, rfl⟩
    · have : x = 0 := by omega
      subst this
      exact hK' _ (by rw [Int.mul_zero] at e; omega)
theorem l07Times.ac (a b : Int) (ha : I64 a) (hb : I64 b) {K : V → List Obj → List Obj → Prop} (hK : K (wv (a * b)) [] []) : AC Try.prog 208 [iv a, iv b] [] K := by
  refine ac_body (ann []) [((997, 0), true), ((6, 0), true)] hm htt Try.func208 rfl (by kernel_rfl) rfl rfl ?_
  repeat' ((conv => whnf); first
    | (refine l03Times.ac _ _ ha hb ?_)
    | (refine bF_dec (fun _ => ?_) (fun _ => ?_) <;> try (exfalso; omega))
    | (refine bF_eq (fun _ => ?_) (fun _ => ?_) <;> try (exfalso; omega))
    | (refine bF_ne (fun _ => ?_) (fun _ => ?_) <;> try (exfalso; omega))
    | (refine a64 (by omega) ?_)
    | (refine ix_at rfl (by omega) ?_)
    | (refine ⟨⟨rfl, by omega, by omega⟩, ?_⟩)
    | (refine map_at (by omega) ?_)
    | (refine alen ?_)
    | (refine amin ?_)
    | (refine amax ?_)
    | (refine ⟨⟨rfl, rfl, by simp [V.ments, mentsL]⟩, ?_⟩)
    | (refine map_at0 (by omega) ?_)
    | (refine set_at rfl ?_)
    | (refine map_atI (by omega) ?_)
    | (refine map_atI0 (by omega) ?_)
    | (refine set_atI rfl ?_)
    | (refine ⟨⟨by decide, rfl, by omega, by omega, by omega, by dsimp only; omega⟩, ?_⟩)
    | (refine arem (by omega) ?_)
    | (refine aquo (by omega) (by omega) ?_)
    | (refine au8 ?_)
    | (refine au64 (by omega) ?_)
    | (refine anat ?_)
    | (refine szOk rfl ?_)
    | (refine dvOk rfl (by omega) ?_)
    | (refine nzOk (by decide) ?_)
    | (refine lgOk (by kernel_rfl) ?_)
    | (refine kpOk (by kernel_rfl) ?_)
    | fail)
  all_goals conv => whnf
  exact hK
theorem take_ext {a b : List Int} (hl : a.length = b.length) (h : ∀ i, i < a.length → a.getD i default = b.getD i default) : a = b := by
  refine List.ext_getElem hl fun i h1 h2 => ?_
  have := h i h1
  rwa [List.getD_eq_getElem?_getD, List.getElem?_eq_getElem h1, List.getD_eq_getElem?_getD, List.getElem?_eq_getElem h2] at this
theorem l07Same2 (a b : List Int) (ha : a.length ≤ 1000000) (hb : b.length ≤ 1000000) : Two 207 [.is 1 (a.map iv), .is 1 (b.map iv)] (a = b) := fun hT hF => by
  refine ac_body (ann [(4, [0, 1, 5], [])]) [((997, 0), true)] hm htt Try.func207 rfl (by kernel_rfl) rfl rfl ?_
  repeat' ((conv => whnf); first
    | (refine bF_dec (fun _ => ?_) (fun _ => ?_) <;> try (exfalso; omega))
    | (refine bF_eq (fun _ => ?_) (fun _ => ?_) <;> try (exfalso; omega))
    | (refine bF_ne (fun _ => ?_) (fun _ => ?_) <;> try (exfalso; omega))
    | (refine a64 (by omega) ?_)
    | (refine ix_at rfl (by omega) ?_)
    | (refine ⟨⟨rfl, by omega, by omega⟩, ?_⟩)
    | (refine map_at (by omega) ?_)
    | (refine alen ?_)
    | (refine amin ?_)
    | (refine amax ?_)
    | (refine ⟨⟨rfl, rfl, by simp [V.ments, mentsL]⟩, ?_⟩)
    | (refine map_at0 (by omega) ?_)
    | (refine set_at rfl ?_)
    | (refine map_atI (by omega) ?_)
    | (refine map_atI0 (by omega) ?_)
    | (refine set_atI rfl ?_)
    | (refine ⟨⟨by decide, rfl, by omega, by omega, by omega, by dsimp only; omega⟩, ?_⟩)
    | (refine arem (by omega) ?_)
    | (refine aquo (by omega) (by omega) ?_)
    | (refine au8 ?_)
    | (refine au64 (by omega) ?_)
    | (refine anat ?_)
    | (refine szOk rfl ?_)
    | (refine dvOk rfl (by omega) ?_)
    | (refine nzOk (by decide) ?_)
    | (refine lgOk (by kernel_rfl) ?_)
    | (refine kpOk (by kernel_rfl) ?_)
    | fail)
  all_goals conv => whnf
  · exact hF fun h => by subst h; omega
  refine cwF_loop (fun m st => ∃ (i : Nat), (m = a.length - i ∧ i ≤ a.length ∧ a.length = b.length ∧ ∀ j, j < i → a.getD j default = b.getD j default) ∧
    st = ⟨[.is 1 (a.map iv), .is 1 (b.map iv), .un, .un, .un, iv i] ++ List.replicate 20 .un, mkOb []⟩) a.length (by kernel_rfl) ⟨0, ⟨rfl, by omega, by omega, fun j h => absurd h (by omega)⟩, rfl⟩ ?_
  rintro m st ⟨i, ⟨rfl, hi, hl, hle⟩, rfl⟩
  repeat' ((conv => whnf); first
    | (refine bF_dec (fun _ => ?_) (fun _ => ?_) <;> try (exfalso; omega))
    | (refine bF_eq (fun _ => ?_) (fun _ => ?_) <;> try (exfalso; omega))
    | (refine bF_ne (fun _ => ?_) (fun _ => ?_) <;> try (exfalso; omega))
    | (refine a64 (by omega) ?_)
    | (refine ix_at rfl (by omega) ?_)
    | (refine ⟨⟨rfl, by omega, by omega⟩, ?_⟩)
    | (refine map_at (by omega) ?_)
    | (refine alen ?_)
    | (refine amin ?_)
    | (refine amax ?_)
    | (refine ⟨⟨rfl, rfl, by simp [V.ments, mentsL]⟩, ?_⟩)
    | (refine map_at0 (by omega) ?_)
    | (refine set_at rfl ?_)
    | (refine map_atI (by omega) ?_)
    | (refine map_atI0 (by omega) ?_)
    | (refine set_atI rfl ?_)
    | (refine ⟨⟨by decide, rfl, by omega, by omega, by omega, by dsimp only; omega⟩, ?_⟩)
    | (refine arem (by omega) ?_)
    | (refine aquo (by omega) (by omega) ?_)
    | (refine au8 ?_)
    | (refine au64 (by omega) ?_)
    | (refine anat ?_)
    | (refine szOk rfl ?_)
    | (refine dvOk rfl (by omega) ?_)
    | (refine nzOk (by decide) ?_)
    | (refine lgOk (by kernel_rfl) ?_)
    | (refine kpOk (by kernel_rfl) ?_)
    | fail)
  all_goals conv => whnf
  · rename_i hne
    exact hF fun h => hne (by rw [h])
  · rename_i he
    exact ⟨a.length - (i + 1), by omega, i + 1, ⟨rfl, by omega, hl, fun j hj => by
      by_cases h : j = i
      · rw [h]; exact he
      · exact hle j (by omega)⟩, rfl⟩
  · exact hT (take_ext hl fun j hj => hle j (by omega))
end Go.Eng.T
