import Derived.Test.YtpfmaiiolifblaaXBxP3
import Derived.Test.YtpfmaiiolifblaaXPnS3
import Derived.Test.YtpfmaiiolifblaaXSrtTh
namespace Go.Eng.T
open Go.Proofs Go.Eng
set_option maxRecDepth 100000
set_option maxHeartbeats 0

abbrev rowP (l : List Pn) : Obj := .arr true 8 (l.map encPn)
theorem isNaN.ac (n : Int) {K : V → List Obj → List Obj → Prop} (hK : K (bv false) [] []) : AC Try.prog 233 [iv n] [] K := by
  refine ac_body (ann []) [((997, 0), true)] hm htt Try.func233 rfl (by kernel_rfl) rfl rfl ?_
  repeat' ((conv => whnf); first
    | (refine bF_dec (fun _ => ?_) (fun _ => ?_) <;> try (exfalso; omega))
    | (refine bF_eq (fun _ => ?_) (fun _ => ?_) <;> try (exfalso; omega))
    | (refine bF_ne (fun _ => ?_) (fun _ => ?_) <;> try (exfalso; omega))
    | (refine a64 (by omega) ?_)
    | (refine ix_at rfl (by omega) ?_)
    | (refine ⟨⟨rfl, by omega, by omega⟩, ?_⟩)
    | (refine map_at (by omega) ?_)
    | (refine alen ?_)
    | (refine amin ?_)
    | (refine amax ?_)
    | (refine ⟨⟨rfl, rfl, by simp [V.ments, mentsL]⟩, ?_⟩)
    | (refine map_at0 (by omega) ?_)
    | (refine set_at rfl ?_)
    | (refine map_atI (by omega) ?_)
    | (refine map_atI0 (by omega) ?_)
    | (refine set_atI rfl ?_)
    | (refine ⟨⟨by decide, rfl, by omega, by omega, by omega, by dsimp only; omega⟩, ?_⟩)
    | (refine arem (by omega) ?_)
    | (refine aquo (by omega) (by omega) ?_)
    | (refine au8 ?_)
    | (refine au64 (by omega) ?_)
    | (refine anat ?_)
    | (refine szOk rfl ?_)
    | (refine dvOk rfl (by omega) ?_)
    | (refine nzOk (by decide) ?_)
    | (refine lgOk (by kernel_rfl) ?_)
    | (refine kpOk (by kernel_rfl) ?_)
    | fail)
  all_goals conv => whnf
  all_goals first
    | exact hK
    | exact absurd rfl (by assumption)
theorem cmpI.ac (a b : Int) {K : V → List Obj → List Obj → Prop} (hK : K (iv (wcmp a b)) [] []) : AC Try.prog 195 [iv a, iv b] [] K := by
  have hK' : ∀ x, x = wcmp a b → K (iv x) [] [] := by rintro _ rfl; exact hK
  refine ac_body (ann []) [((997, 0), true)] hm htt Try.func195 rfl (by kernel_rfl) rfl rfl ?_
  repeat' ((conv => whnf); first
    | (refine isNaN.ac _ ?_)
    | (refine bF_dec (fun _ => ?_) (fun _ => ?_) <;> try (exfalso; omega))
    | (refine bF_eq (fun _ => ?_) (fun _ => ?_) <;> try (exfalso; omega))
    | (refine bF_ne (fun _ => ?_) (fun _ => ?_) <;> try (exfalso; omega))
    | (refine a64 (by omega) ?_)
    | (refine ix_at rfl (by omega) ?_)
    | (refine ⟨⟨rfl, by omega, by omega⟩, ?_⟩)
    | (refine map_at (by omega) ?_)
    | (refine alen ?_)
    | (refine amin ?_)
    | (refine amax ?_)
    | (refine ⟨⟨rfl, rfl, by simp [V.ments, mentsL]⟩, ?_⟩)
    | (refine map_at0 (by omega) ?_)
    | (refine set_at rfl ?_)
    | (refine map_atI (by omega) ?_)
    | (refine map_atI0 (by omega) ?_)
    | (refine set_atI rfl ?_)
    | (refine ⟨⟨by decide, rfl, by omega, by omega, by omega, by dsimp only; omega⟩, ?_⟩)
    | (refine arem (by omega) ?_)
    | (refine aquo (by omega) (by omega) ?_)
    | (refine au8 ?_)
    | (refine au64 (by omega) ?_)
    | (refine anat ?_)
    | (refine szOk rfl ?_)
    | (refine dvOk rfl (by omega) ?_)
    | (refine nzOk (by decide) ?_)
    | (refine lgOk (by kernel_rfl) ?_)
    | (refine kpOk (by kernel_rfl) ?_)
    | fail)
  all_goals conv => whnf
  all_goals exact hK' _ (by unfold wcmp; (repeat' split) <;> omega)
/-- The first number that is not 0. -/
def orL : List Int → Int
  | [] => 0
  | x :: l => if x ≠ 0 then x else orL l
theorem orL_at {l : List Int} {i : Nat} (h : i < l.length) : orL (l.drop i) = if l.getD i default ≠ 0 then l.getD i default else orL (l.drop (i + 1)) := by
  rw [List.drop_eq_getElem_cons h, List.getD_eq_getElem?_getD, List.getElem?_eq_getElem h]; rfl
theorem orI.ac (l : List Int) (hl : l.length ≤ 1000) {K : V → List Obj → List Obj → Prop} (hK : K (iv (orL l)) [] []) : AC Try.prog 194 [.is 1 (l.map iv)] [] K := by
  have hK' : ∀ x, x = orL l → K (iv x) [] [] := by rintro _ rfl; exact hK
  refine ac_body (ann [(3, [3, 6, 7, 8], [])]) [((997, 0), true)] hm htt Try.func194 rfl (by kernel_rfl) rfl rfl ?_
  repeat' ((conv => whnf); first
    | (refine bF_dec (fun _ => ?_) (fun _ => ?_) <;> try (exfalso; omega))
    | (refine bF_eq (fun _ => ?_) (fun _ => ?_) <;> try (exfalso; omega))
    | (refine bF_ne (fun _ => ?_) (fun _ => ?_) <;> try (exfalso; omega))
    | (refine a64 (by omega) ?_)
    | (refine ix_at rfl (by omega) ?_)
    | (refine ⟨⟨rfl, by omega, by omega⟩, ?_⟩)
    | (refine map_at (by omega) ?_)
    | (refine alen ?_)
    | (refine amin ?_)
    | (refine amax ?_)
    | (refine ⟨⟨rfl, rfl, by simp [V.ments, mentsL]⟩, ?_⟩)
    | (refine map_at0 (by omega) ?_)
    | (refine set_at rfl ?_)
    | (refine map_atI (by omega) ?_)
    | (refine map_atI0 (by omega) ?_)
    | (refine set_atI rfl ?_)
    | (refine ⟨⟨by decide, rfl, by omega, by omega, by omega, by dsimp only; omega⟩, ?_⟩)
    | (refine arem (by omega) ?_)
    | (refine aquo (by omega) (by omega) ?_)
    | (refine au8 ?_)
    | (refine au64 (by omega) ?_)
    | (refine anat ?_)
    | (refine szOk rfl ?_)
    | (refine dvOk rfl (by omega) ?_)
    | (refine nzOk (by decide) ?_)
    | (refine lgOk (by kernel_rfl) ?_)
    | (refine kpOk (by kernel_rfl) ?_)
    | fail)
  all_goals conv => whnf
  refine cwF_loop (fun m st => ∃ (i : Nat), (m = l.length - i ∧ i ≤ l.length ∧ orL l = orL (l.drop i)) ∧
    st = ⟨[.un, .un, .un, iv 0, .un, .un, .is 1 (l.map iv), iv l.length, iv i] ++ List.replicate 9 .un, mkOb []⟩) l.length (by kernel_rfl) ⟨0, ⟨rfl, by omega, rfl⟩, rfl⟩ ?_
  rintro m st ⟨i, ⟨rfl, hi, ho⟩, rfl⟩
  repeat' ((conv => whnf); first
    | (refine bF_dec (fun _ => ?_) (fun _ => ?_) <;> try (exfalso; omega))
    | (refine bF_eq (fun _ => ?_) (fun _ => ?_) <;> try (exfalso; omega))
    | (refine bF_ne (fun _ => ?_) (fun _ => ?_) <;> try (exfalso; omega))
    | (refine a64 (by omega) ?_)
    | (refine ix_at rfl (by omega) ?_)
    | (refine ⟨⟨rfl, by omega, by omega⟩, ?_⟩)
    | (refine map_at (by omega) ?_)
    | (refine alen ?_)
    | (refine amin ?_)
    | (refine amax ?_)
    | (refine ⟨⟨rfl, rfl, by simp [V.ments, mentsL]⟩, ?_⟩)
    | (refine map_at0 (by omega) ?_)
    | (refine set_at rfl ?_)
    | (refine map_atI (by omega) ?_)
    | (refine map_atI0 (by omega) ?_)
    | (refine set_atI rfl ?_)
    | (refine ⟨⟨by decide, rfl, by omega, by omega, by omega, by dsimp only; omega⟩, ?_⟩)
    | (refine arem (by omega) ?_)
    | (refine aquo (by omega) (by omega) ?_)
    | (refine au8 ?_)
    | (refine au64 (by omega) ?_)
    | (refine anat ?_)
    | (refine szOk rfl ?_)
    | (refine dvOk rfl (by omega) ?_)
    | (refine nzOk (by decide) ?_)
    | (refine lgOk (by kernel_rfl) ?_)
    | (refine kpOk (by kernel_rfl) ?_)
    | fail)
  all_goals conv => whnf
  · rename_i c1 c2
    exact hK' _ (by rw [ho, orL_at (by omega), if_pos c2])
  · rename_i c1 c2
    exact ⟨l.length - (i + 1), by omega, i + 1, ⟨rfl, by omega, by rw [ho, orL_at (by omega), if_neg (by omega)]⟩, rfl⟩
  · exact hK' _ (by rw [ho, List.drop_eq_nil_of_le (by omega)]; rfl)
theorem cmp_lt (p q : Pn) : orL [wcmp p.q q.q, wcmp p.k q.k, wcmp p.f q.f, wcmp p.t q.t] < 0 ↔ pnLt p q = true := by
  unfold pnLt
  simp only [orL]
  unfold wcmp
  by_cases h1 : p.q = q.q
  · by_cases h2 : p.k = q.k
    · by_cases h3 : p.f = q.f
      · simp only [h1, h2, h3, Int.lt_irrefl, if_false, if_true, ne_eq, not_true_eq_false, decide_eq_true_iff]
        by_cases h4 : p.t < q.t
        · simp [h4]
        · by_cases h5 : p.t = q.t
          · simp [h5]
          · simp [h4, h5]
      · by_cases h4 : p.f < q.f
        · simp [h1, h2, h3, h4]
        · simp [h1, h2, h3, h4]
    · by_cases h4 : p.k < q.k
      · simp [h1, h2, h4]
      · simp [h1, h2, h4]
  · by_cases h4 : p.q < q.q
    · simp [h1, h4]
    · simp [h1, h4]
theorem cmpP.ac (p q : Pn) {K : V → List Obj → List Obj → Prop} (hK : ∀ c, (c < 0 ↔ pnLt p q = true) → K (iv c) [] []) : AC Try.prog 130 [encPn p, encPn q] [] K := by
  refine ac_body (annI [(194, [0])] []) [((997, 0), true), ((4, 0), true), ((5, 0), true), ((27, 0), true)] hm htt Try.func130 rfl (by kernel_rfl) rfl rfl ?_
  repeat' ((conv => whnf); first
    | (refine cmpI.ac _ _ ?_)
    | (refine orI.ac [wcmp p.q q.q, wcmp p.k q.k, wcmp p.f q.f, wcmp p.t q.t] (by simp) ?_)
    | (refine bF_dec (fun _ => ?_) (fun _ => ?_) <;> try (exfalso; omega))
    | (refine bF_eq (fun _ => ?_) (fun _ => ?_) <;> try (exfalso; omega))
    | (refine bF_ne (fun _ => ?_) (fun _ => ?_) <;> try (exfalso; omega))
    | (refine a64 (by omega) ?_)
    | (refine ix_at rfl (by omega) ?_)
    | (refine ⟨⟨rfl, by omega, by omega⟩, ?_⟩)
    | (refine map_at (by omega) ?_)
    | (refine alen ?_)
    | (refine amin ?_)
    | (refine amax ?_)
    | (refine ⟨⟨rfl, rfl, by simp [V.ments, mentsL]⟩, ?_⟩)
    | (refine map_at0 (by omega) ?_)
    | (refine set_at rfl ?_)
    | (refine map_atI (by omega) ?_)
    | (refine map_atI0 (by omega) ?_)
    | (refine set_atI rfl ?_)
    | (refine ⟨⟨by decide, rfl, by omega, by omega, by omega, by dsimp only; omega⟩, ?_⟩)
    | (refine arem (by omega) ?_)
    | (refine aquo (by omega) (by omega) ?_)
    | (refine au8 ?_)
    | (refine au64 (by omega) ?_)
    | (refine anat ?_)
    | (refine szOk rfl ?_)
    | (refine dvOk rfl (by omega) ?_)
    | (refine nzOk (by decide) ?_)
    | (refine lgOk (by kernel_rfl) ?_)
    | (refine kpOk (by kernel_rfl) ?_)
    | fail)
  all_goals conv => whnf
  exact hK _ (cmp_lt p q)
theorem lessS2 (p q : Pn) : Two 131 [encPn p, encPn q] (pnLt p q = true) := fun hT hF => by
  have h1 : ∀ (hq : p.q ≠ q.q), pnLt p q = decide (p.q < q.q) := fun h => by unfold pnLt; rw [if_pos h]
  have h2 : ∀ (hq : p.q = q.q) (hk : p.k ≠ q.k), pnLt p q = decide (p.k < q.k) := fun h h' => by unfold pnLt; rw [if_neg (by simpa using h), if_pos h']
  have h3 : ∀ (hq : p.q = q.q) (hk : p.k = q.k) (hf : p.f ≠ q.f), pnLt p q = decide (p.f < q.f) := fun h h' h'' => by unfold pnLt; rw [if_neg (by simpa using h), if_neg (by simpa using h'), if_pos h'']
  have h4 : ∀ (hq : p.q = q.q) (hk : p.k = q.k) (hf : p.f = q.f), pnLt p q = decide (p.t < q.t) := fun h h' h'' => by unfold pnLt; rw [if_neg (by simpa using h), if_neg (by simpa using h'), if_neg (by simpa using h'')]
  refine ac_body (ann []) [((997, 0), true), ((4, 0), true), ((5, 0), true)] hm htt Try.func131 rfl (by kernel_rfl) rfl rfl ?_
  repeat' ((conv => whnf); first
    | (refine bF_dec (fun _ => ?_) (fun _ => ?_) <;> try (exfalso; omega))
    | (refine bF_eq (fun _ => ?_) (fun _ => ?_) <;> try (exfalso; omega))
    | (refine bF_ne (fun _ => ?_) (fun _ => ?_) <;> try (exfalso; omega))
    | (refine a64 (by omega) ?_)
    | (refine ix_at rfl (by omega) ?_)
    | (refine ⟨⟨rfl, by omega, by omega⟩, ?_⟩)
    | (refine map_at (by omega) ?_)
    | (refine alen ?_)
    | (refine amin ?_)
    | (refine amax ?_)
    | (refine ⟨⟨rfl, rfl, by simp [V.ments, mentsL]⟩, ?_⟩)
    | (refine map_at0 (by omega) ?_)
    | (refine set_at rfl ?_)
    | (refine map_atI (by omega) ?_)
    | (refine map_atI0 (by omega) ?_)
    | (refine set_atI rfl ?_)
    | (refine ⟨⟨by decide, rfl, by omega, by omega, by omega, by dsimp only; omega⟩, ?_⟩)
    | (refine arem (by omega) ?_)
    | (refine aquo (by omega) (by omega) ?_)
    | (refine au8 ?_)
    | (refine au64 (by omega) ?_)
    | (refine anat ?_)
    | (refine szOk rfl ?_)
    | (refine dvOk rfl (by omega) ?_)
    | (refine nzOk (by decide) ?_)
    | (refine lgOk (by kernel_rfl) ?_)
    | (refine kpOk (by kernel_rfl) ?_)
    | fail)
  all_goals conv => whnf
  all_goals first
    | exact hT (by rw [h1 (by assumption)]; simpa using (by assumption : p.q < q.q))
    | exact hF (by rw [h1 (by assumption)]; simpa using (by assumption : ¬ p.q < q.q))
    | exact hT (by rw [h2 (by assumption) (by assumption)]; simpa using (by assumption : p.k < q.k))
    | exact hF (by rw [h2 (by assumption) (by assumption)]; simpa using (by assumption : ¬ p.k < q.k))
    | exact hT (by rw [h3 (by assumption) (by assumption) (by assumption)]; simpa using (by assumption : p.f < q.f))
    | exact hF (by rw [h3 (by assumption) (by assumption) (by assumption)]; simpa using (by assumption : ¬ p.f < q.f))
    | exact hT (by rw [h4 (by assumption) (by assumption) (by assumption)]; simpa using (by assumption : p.t < q.t))
    | exact hF (by rw [h4 (by assumption) (by assumption) (by assumption)]; simpa using (by assumption : ¬ p.t < q.t))
    | trace_state
theorem lessI2 (p q : Pn) : Two 50 [encPn p, encPn q] (pnLt p q = true) := fun hT hF => by
  refine ac_body (ann []) [((997, 0), true), ((4, 0), true), ((5, 0), true)] hm htt Try.func50 rfl (by kernel_rfl) rfl rfl ?_
  repeat' ((conv => whnf); first
    | (refine cmpP.ac p q fun c hc => ?_)
    | (refine bF_dec (fun _ => ?_) (fun _ => ?_) <;> try (exfalso; omega))
    | (refine bF_eq (fun _ => ?_) (fun _ => ?_) <;> try (exfalso; omega))
    | (refine bF_ne (fun _ => ?_) (fun _ => ?_) <;> try (exfalso; omega))
    | (refine a64 (by omega) ?_)
    | (refine ix_at rfl (by omega) ?_)
    | (refine ⟨⟨rfl, by omega, by omega⟩, ?_⟩)
    | (refine map_at (by omega) ?_)
    | (refine alen ?_)
    | (refine amin ?_)
    | (refine amax ?_)
    | (refine ⟨⟨rfl, rfl, by simp [V.ments, mentsL]⟩, ?_⟩)
    | (refine map_at0 (by omega) ?_)
    | (refine set_at rfl ?_)
    | (refine map_atI (by omega) ?_)
    | (refine map_atI0 (by omega) ?_)
    | (refine set_atI rfl ?_)
    | (refine ⟨⟨by decide, rfl, by omega, by omega, by omega, by dsimp only; omega⟩, ?_⟩)
    | (refine arem (by omega) ?_)
    | (refine aquo (by omega) (by omega) ?_)
    | (refine au8 ?_)
    | (refine au64 (by omega) ?_)
    | (refine anat ?_)
    | (refine szOk rfl ?_)
    | (refine dvOk rfl (by omega) ?_)
    | (refine nzOk (by decide) ?_)
    | (refine lgOk (by kernel_rfl) ?_)
    | (refine kpOk (by kernel_rfl) ?_)
    | fail)
  all_goals conv => whnf
  · exact hT (hc.1 (by assumption))
  · exact hF fun h => absurd (hc.2 h) (by assumption)
end Go.Eng.T
