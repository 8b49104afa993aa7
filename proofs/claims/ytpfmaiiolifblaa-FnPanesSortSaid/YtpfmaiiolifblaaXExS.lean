import Derived.Test.YtpfmaiiolifblaaXD2
import Derived.Test.YtpfmaiiolifblaaXExTh
namespace Go.Eng.T
open Go.Proofs Go.Eng
set_option maxRecDepth 100000
set_option maxHeartbeats 0

theorem TakesS.ac (o : Int) {K : V → List Obj → List Obj → Prop} (hK : K (iv (exTakes o)) [] []) : AC Try.prog 221 [iv o] [] K := by
  have hK' : ∀ x, x = exTakes o → K (iv x) [] [] := by rintro _ rfl; exact hK
  refine ac_body (ann []) [((997, 0), true)] hm htt Try.func221 rfl (by kernel_rfl) rfl rfl ?_
  repeat' ((conv => whnf); first
    | (refine bF_dec (fun _ => ?_) (fun _ => ?_) <;> try (exfalso; omega))
    | (refine bF_eq (fun _ => ?_) (fun _ => ?_) <;> try (exfalso; omega))
    | (refine bF_ne (fun _ => ?_) (fun _ => ?_) <;> try (exfalso; omega))
    | (refine a64 (by omega) ?_)
    | (refine ix_at rfl (by omega) ?_)
    | (refine ⟨⟨rfl, by omega, by omega⟩, ?_⟩)
    | (refine map_at (by omega) ?_)
    | (refine alen ?_)
    | (refine amin ?_)
    | (refine amax ?_)
    | (refine ⟨⟨rfl, rfl, by simp [V.ments, mentsL]⟩, ?_⟩)
    | (refine map_at0 (by omega) ?_)
    | (refine set_at rfl ?_)
    | (refine map_atI (by omega) ?_)
    | (refine map_atI0 (by omega) ?_)
    | (refine set_atI rfl ?_)
    | (refine ⟨⟨by decide, rfl, by omega, by omega, by omega, by dsimp only; omega⟩, ?_⟩)
    | (refine arem (by omega) ?_)
    | (refine aquo (by omega) (by omega) ?_)
    | (refine au8 ?_)
    | (refine au64 (by omega) ?_)
    | (refine anat ?_)
    | (refine szOk rfl ?_)
    | (refine dvOk rfl (by omega) ?_)
    | (refine nzOk (by decide) ?_)
    | (refine lgOk (by kernel_rfl) ?_)
    | (refine kpOk (by kernel_rfl) ?_)
    | fail)
  all_goals conv => whnf
  all_goals exact hK' _ (by unfold exTakes; (repeat' split) <;> omega)
theorem exDep_at {x : List (Int × Int)} {i : Nat} (h : i < x.length) (now most : Int) : exDep (x.drop i) now most = if exBad (x.getD i default) now then -1 else exDep (x.drop (i + 1)) (now + 1 - exTakes (x.getD i default).1) (max most (now + 1 - exTakes (x.getD i default).1)) := by
  rw [List.drop_eq_getElem_cons h, List.getD_eq_getElem?_getD, List.getElem?_eq_getElem h]; rfl
theorem exDep_end {x : List (Int × Int)} {i : Nat} (h : x.length ≤ i) (now most : Int) : exDep (x.drop i) now most = if now = 1 then most else -1 := by
  rw [List.drop_eq_nil_of_le h]; rfl
theorem DepthS.ac (x : List (Int × Int)) (hx : x.length ≤ 100000) {K : V → List Obj → List Obj → Prop} (hK : K (iv (exDepth x)) [] []) : AC Try.prog 167 [.is 2 (x.map encT)] [] K := by
  have hK' : ∀ r, r = exDepth x → K (iv r) [] [] := by rintro _ rfl; exact hK
  refine ac_body (ann [(6, [0, 3, 4, 5], [])]) [((997, 0), true)] hm htt Try.func167 rfl (by kernel_rfl) rfl rfl ?_
  repeat' ((conv => whnf); first
    | (refine bF_dec (fun _ => ?_) (fun _ => ?_) <;> try (exfalso; omega))
    | (refine bF_eq (fun _ => ?_) (fun _ => ?_) <;> try (exfalso; omega))
    | (refine bF_ne (fun _ => ?_) (fun _ => ?_) <;> try (exfalso; omega))
    | (refine a64 (by omega) ?_)
    | (refine ix_at rfl (by omega) ?_)
    | (refine ⟨⟨rfl, by omega, by omega⟩, ?_⟩)
    | (refine map_at (by omega) ?_)
    | (refine alen ?_)
    | (refine amin ?_)
    | (refine amax ?_)
    | (refine ⟨⟨rfl, rfl, by simp [V.ments, mentsL]⟩, ?_⟩)
    | (refine map_at0 (by omega) ?_)
    | (refine set_at rfl ?_)
    | (refine map_atI (by omega) ?_)
    | (refine map_atI0 (by omega) ?_)
    | (refine set_atI rfl ?_)
    | (refine ⟨⟨by decide, rfl, by omega, by omega, by omega, by dsimp only; omega⟩, ?_⟩)
    | (refine arem (by omega) ?_)
    | (refine aquo (by omega) (by omega) ?_)
    | (refine au8 ?_)
    | (refine au64 (by omega) ?_)
    | (refine anat ?_)
    | (refine szOk rfl ?_)
    | (refine dvOk rfl (by omega) ?_)
    | (refine nzOk (by decide) ?_)
    | (refine lgOk (by kernel_rfl) ?_)
    | (refine kpOk (by kernel_rfl) ?_)
    | fail)
  all_goals conv => whnf
  · exact hK' _ (by unfold exDepth; rw [if_pos (by omega)])
  · exact hK' _ (by unfold exDepth; rw [if_pos (by omega)])
  refine cwF_loop (fun m st => ∃ (i : Nat) (now most : Int), (m = x.length - i ∧ i ≤ x.length ∧ 0 ≤ now ∧ now ≤ i ∧ 0 ≤ most ∧ most ≤ i ∧ exDepth x = exDep (x.drop i) now most) ∧
    st = ⟨[.is 2 (x.map encT), .un, .un, iv now, iv most, iv i] ++ List.replicate 69 .un, mkOb []⟩) x.length (by kernel_rfl) ⟨0, 0, 0, ⟨rfl, by omega, by omega, by omega, by omega, by omega, by unfold exDepth; rw [if_neg (by omega), List.drop_zero]⟩, rfl⟩ ?_
  rintro m st ⟨i, now, most, ⟨rfl, hi, n0, n1, m0, m1, hd⟩, rfl⟩
  have hb := exTakes_b (x.getD i default).1
  repeat' ((conv => whnf); first
    | (refine TakesS.ac _ ?_)
    | (refine bF_dec (fun _ => ?_) (fun _ => ?_) <;> try (exfalso; omega))
    | (refine bF_eq (fun _ => ?_) (fun _ => ?_) <;> try (exfalso; omega))
    | (refine bF_ne (fun _ => ?_) (fun _ => ?_) <;> try (exfalso; omega))
    | (refine a64 (by omega) ?_)
    | (refine ix_at rfl (by omega) ?_)
    | (refine ⟨⟨rfl, by omega, by omega⟩, ?_⟩)
    | (refine map_at (by omega) ?_)
    | (refine alen ?_)
    | (refine amin ?_)
    | (refine amax ?_)
    | (refine ⟨⟨rfl, rfl, by simp [V.ments, mentsL]⟩, ?_⟩)
    | (refine map_at0 (by omega) ?_)
    | (refine set_at rfl ?_)
    | (refine map_atI (by omega) ?_)
    | (refine map_atI0 (by omega) ?_)
    | (refine set_atI rfl ?_)
    | (refine ⟨⟨by decide, rfl, by omega, by omega, by omega, by dsimp only; omega⟩, ?_⟩)
    | (refine arem (by omega) ?_)
    | (refine aquo (by omega) (by omega) ?_)
    | (refine au8 ?_)
    | (refine au64 (by omega) ?_)
    | (refine anat ?_)
    | (refine szOk rfl ?_)
    | (refine dvOk rfl (by omega) ?_)
    | (refine nzOk (by decide) ?_)
    | (refine lgOk (by kernel_rfl) ?_)
    | (refine kpOk (by kernel_rfl) ?_)
    | fail)
  all_goals conv => whnf
  all_goals first
    | exact hK' _ (by rw [hd, exDep_at (by omega), if_pos (by unfold exBad; omega)])
    | exact hK' _ (by rw [hd, exDep_end (by omega)]; first | rw [if_pos (by omega)] | rw [if_neg (by omega)])
    | (refine ⟨x.length - (i + 1), by omega, i + 1, _, _, ⟨rfl, ?_, ?_, ?_, ?_, ?_, ?_⟩, rfl⟩
       · omega
       · omega
       · omega
       · omega
       · omega
       · rw [hd, exDep_at (by omega), if_neg (by unfold exBad; omega)]
         congr 1 <;> omega)
theorem ExprOkS2 (x : List (Int × Int)) (hx : x.length ≤ 100000) : Two 90 [.is 2 (x.map encT)] (exDepth x ≠ -1) := fun hT hF => by
  have h1 := exDepth_one x
  refine ac_body (ann []) [((997, 0), true)] hm htt Try.func90 rfl (by kernel_rfl) rfl rfl ?_
  repeat' ((conv => whnf); first
    | (refine DepthS.ac x hx ?_)
    | (refine bF_dec (fun _ => ?_) (fun _ => ?_) <;> try (exfalso; omega))
    | (refine bF_eq (fun _ => ?_) (fun _ => ?_) <;> try (exfalso; omega))
    | (refine bF_ne (fun _ => ?_) (fun _ => ?_) <;> try (exfalso; omega))
    | (refine a64 (by omega) ?_)
    | (refine ix_at rfl (by omega) ?_)
    | (refine ⟨⟨rfl, by omega, by omega⟩, ?_⟩)
    | (refine map_at (by omega) ?_)
    | (refine alen ?_)
    | (refine amin ?_)
    | (refine amax ?_)
    | (refine ⟨⟨rfl, rfl, by simp [V.ments, mentsL]⟩, ?_⟩)
    | (refine map_at0 (by omega) ?_)
    | (refine set_at rfl ?_)
    | (refine map_atI (by omega) ?_)
    | (refine map_atI0 (by omega) ?_)
    | (refine set_atI rfl ?_)
    | (refine ⟨⟨by decide, rfl, by omega, by omega, by omega, by dsimp only; omega⟩, ?_⟩)
    | (refine arem (by omega) ?_)
    | (refine aquo (by omega) (by omega) ?_)
    | (refine au8 ?_)
    | (refine au64 (by omega) ?_)
    | (refine anat ?_)
    | (refine szOk rfl ?_)
    | (refine dvOk rfl (by omega) ?_)
    | (refine nzOk (by decide) ?_)
    | (refine lgOk (by kernel_rfl) ?_)
    | (refine kpOk (by kernel_rfl) ?_)
    | fail)
  all_goals conv => whnf
  · exact hT (by omega)
  · exact hF (by omega)
abbrev WkOk (k s t : Int) : Prop := (1 ≤ k ∧ k ≤ 3) ∧ (1 ≤ s ∧ s ≤ 100) ∧ (k ≠ 2 → t = 0) ∧ (k = 2 → 1 ≤ t ∧ t ≤ s ∧ s ≤ 8 * t)
abbrev KkOk (k n : Int) : Prop := (1 ≤ k ∧ k ≤ 5 ∧ n = 0) ∨ (k = 6 ∧ 1 ≤ n ∧ n ≤ 4)
def QrOk (q : QueryR) : Prop := exDepth q.f ≠ -1 ∧ exDepth q.m ≠ -1 ∧ WkOk q.wk q.ws q.wt ∧ KkOk q.k q.kk
theorem WinOkS2 (k s t : Int) (hk : I64 k) (hs : I64 s) (ht : I64 t) : Two 91 [.agg [iv k, iv s, iv t]] (WkOk k s t) := fun hT hF => by
  unfold I64 at *
  refine ac_body (ann []) [((997, 0), true), ((3, 0), true)] hm htt Try.func91 rfl (by kernel_rfl) rfl rfl ?_
  repeat' ((conv => whnf); first
    | (refine bF_dec (fun _ => ?_) (fun _ => ?_) <;> try (exfalso; omega))
    | (refine bF_eq (fun _ => ?_) (fun _ => ?_) <;> try (exfalso; omega))
    | (refine bF_ne (fun _ => ?_) (fun _ => ?_) <;> try (exfalso; omega))
    | (refine a64 (by omega) ?_)
    | (refine ix_at rfl (by omega) ?_)
    | (refine ⟨⟨rfl, by omega, by omega⟩, ?_⟩)
    | (refine map_at (by omega) ?_)
    | (refine alen ?_)
    | (refine amin ?_)
    | (refine amax ?_)
    | (refine ⟨⟨rfl, rfl, by simp [V.ments, mentsL]⟩, ?_⟩)
    | (refine map_at0 (by omega) ?_)
    | (refine set_at rfl ?_)
    | (refine map_atI (by omega) ?_)
    | (refine map_atI0 (by omega) ?_)
    | (refine set_atI rfl ?_)
    | (refine ⟨⟨by decide, rfl, by omega, by omega, by omega, by dsimp only; omega⟩, ?_⟩)
    | (refine arem (by omega) ?_)
    | (refine aquo (by omega) (by omega) ?_)
    | (refine au8 ?_)
    | (refine au64 (by omega) ?_)
    | (refine anat ?_)
    | (refine szOk rfl ?_)
    | (refine dvOk rfl (by omega) ?_)
    | (refine nzOk (by decide) ?_)
    | (refine lgOk (by kernel_rfl) ?_)
    | (refine kpOk (by kernel_rfl) ?_)
    | fail)
  all_goals conv => whnf
  all_goals first | exact hT (by unfold WkOk; omega) | exact hF (by unfold WkOk; omega)
theorem KindS2 (k n : Int) : Two 92 [iv k, iv n] (KkOk k n) := fun hT hF => by
  refine ac_body (ann []) [((997, 0), true)] hm htt Try.func92 rfl (by kernel_rfl) rfl rfl ?_
  repeat' ((conv => whnf); first
    | (refine bF_dec (fun _ => ?_) (fun _ => ?_) <;> try (exfalso; omega))
    | (refine bF_eq (fun _ => ?_) (fun _ => ?_) <;> try (exfalso; omega))
    | (refine bF_ne (fun _ => ?_) (fun _ => ?_) <;> try (exfalso; omega))
    | (refine a64 (by omega) ?_)
    | (refine ix_at rfl (by omega) ?_)
    | (refine ⟨⟨rfl, by omega, by omega⟩, ?_⟩)
    | (refine map_at (by omega) ?_)
    | (refine alen ?_)
    | (refine amin ?_)
    | (refine amax ?_)
    | (refine ⟨⟨rfl, rfl, by simp [V.ments, mentsL]⟩, ?_⟩)
    | (refine map_at0 (by omega) ?_)
    | (refine set_at rfl ?_)
    | (refine map_atI (by omega) ?_)
    | (refine map_atI0 (by omega) ?_)
    | (refine set_atI rfl ?_)
    | (refine ⟨⟨by decide, rfl, by omega, by omega, by omega, by dsimp only; omega⟩, ?_⟩)
    | (refine arem (by omega) ?_)
    | (refine aquo (by omega) (by omega) ?_)
    | (refine au8 ?_)
    | (refine au64 (by omega) ?_)
    | (refine anat ?_)
    | (refine szOk rfl ?_)
    | (refine dvOk rfl (by omega) ?_)
    | (refine nzOk (by decide) ?_)
    | (refine lgOk (by kernel_rfl) ?_)
    | (refine kpOk (by kernel_rfl) ?_)
    | fail)
  all_goals conv => whnf
  all_goals first | exact hT (by unfold KkOk; omega) | exact hF (by unfold KkOk; omega)
theorem QueryOkS2 (q : QueryR) (hf : q.f.length ≤ 100000) (hm' : q.m.length ≤ 100000) (h1 : I64 q.wk) (h2 : I64 q.ws) (h3 : I64 q.wt) : Two 29 [encQ q] (QrOk q) := fun hT hF => by
  refine ac_body (ann []) [((997, 0), true), ((3, 0), true)] hm htt Try.func29 rfl (by kernel_rfl) rfl rfl ?_
  repeat' ((conv => whnf); first
    | (refine ExprOkS2 q.f hf (fun _ => ?_) (fun _ => ?_))
    | (refine ExprOkS2 q.m hm' (fun _ => ?_) (fun _ => ?_))
    | (refine WinOkS2 _ _ _ h1 h2 h3 (fun _ => ?_) (fun _ => ?_))
    | (refine KindS2 _ _ (fun _ => ?_) (fun _ => ?_))
    | (refine bF_dec (fun _ => ?_) (fun _ => ?_) <;> try (exfalso; omega))
    | (refine bF_eq (fun _ => ?_) (fun _ => ?_) <;> try (exfalso; omega))
    | (refine bF_ne (fun _ => ?_) (fun _ => ?_) <;> try (exfalso; omega))
    | (refine a64 (by omega) ?_)
    | (refine ix_at rfl (by omega) ?_)
    | (refine ⟨⟨rfl, by omega, by omega⟩, ?_⟩)
    | (refine map_at (by omega) ?_)
    | (refine alen ?_)
    | (refine amin ?_)
    | (refine amax ?_)
    | (refine ⟨⟨rfl, rfl, by simp [V.ments, mentsL]⟩, ?_⟩)
    | (refine map_at0 (by omega) ?_)
    | (refine set_at rfl ?_)
    | (refine map_atI (by omega) ?_)
    | (refine map_atI0 (by omega) ?_)
    | (refine set_atI rfl ?_)
    | (refine ⟨⟨by decide, rfl, by omega, by omega, by omega, by dsimp only; omega⟩, ?_⟩)
    | (refine arem (by omega) ?_)
    | (refine aquo (by omega) (by omega) ?_)
    | (refine au8 ?_)
    | (refine au64 (by omega) ?_)
    | (refine anat ?_)
    | (refine szOk rfl ?_)
    | (refine dvOk rfl (by omega) ?_)
    | (refine nzOk (by decide) ?_)
    | (refine lgOk (by kernel_rfl) ?_)
    | (refine kpOk (by kernel_rfl) ?_)
    | fail)
  all_goals conv => whnf
  all_goals first | exact hT ⟨by assumption, by assumption, by assumption, by assumption⟩ | exact hF (fun h => absurd h.1 (by assumption)) | exact hF (fun h => absurd h.2.1 (by assumption)) | exact hF (fun h => absurd h.2.2.1 (by assumption)) | exact hF (fun h => absurd h.2.2.2 (by assumption))
end Go.Eng.T
