import Derived.Test.YtpfmaiiolifblaaXPoll35
/- Expressions, in plain Lean. -/
namespace Go.Eng
def exTakes (o : Int) : Int := if o ≤ 3 then 0 else if o = 11 then 1 else 2
theorem exTakes_b (o : Int) : 0 ≤ exTakes o ∧ exTakes o ≤ 2 := by unfold exTakes; split <;> (try split) <;> omega
def exBad (t : Int × Int) (now : Int) : Prop := t.1 < 0 ∨ 11 < t.1 ∨ (t.1 ≠ 0 ∧ t.2 ≠ 0) ∨ now < exTakes t.1
instance (t : Int × Int) (now : Int) : Decidable (exBad t now) := by unfold exBad; exact inferInstance
def exDep : List (Int × Int) → Int → Int → Int
  | [], now, most => if now = 1 then most else -1
  | t :: x, now, most => if exBad t now then -1 else exDep x (now + 1 - exTakes t.1) (max most (now + 1 - exTakes t.1))
def exDepth (x : List (Int × Int)) : Int := if x.length < 1 ∨ 20 < x.length then -1 else exDep x 0 0
theorem exDep_most : ∀ (x : List (Int × Int)) (now most : Int), exDep x now most = -1 ∨ most ≤ exDep x now most
  | [], now, most => by unfold exDep; split <;> omega
  | t :: x, now, most => by
    unfold exDep
    split
    · exact .inl rfl
    · have := exDep_most x (now + 1 - exTakes t.1) (max most (now + 1 - exTakes t.1))
      omega
theorem exDep_one : ∀ (x : List (Int × Int)) (now most : Int), (x = [] → now ≤ most) → exDep x now most = -1 ∨ 1 ≤ exDep x now most
  | [], now, most, h => by have := h rfl; unfold exDep; split <;> omega
  | t :: x, now, most, _ => by
    unfold exDep
    split
    · exact .inl rfl
    · exact exDep_one x _ _ (fun _ => by omega)
theorem exDepth_one (x : List (Int × Int)) : exDepth x = -1 ∨ 1 ≤ exDepth x := by
  unfold exDepth
  split
  · exact .inl rfl
  · refine exDep_one x 0 0 (fun _ => by omega)

/-- What an operation makes of two numbers, exactly. -/
def exTwo (o a b : Int) : Int :=
  if o = 4 then a + b else if o = 5 then a - b else if o = 6 then a * b else if o = 7 then a.tdiv b
  else if o = 8 then (if a < b then 1 else 0) else if o = 9 then (if a = b then 1 else 0) else (if a ≠ 0 ∧ b ≠ 0 then 1 else 0)
/-- Its code. -/
def exCode (o a b : Int) : Int :=
  if o = 7 ∧ b = 0 then 3 else if -9223372036854775808 ≤ exTwo o a b ∧ exTwo o a b ≤ 9223372036854775807 then 0 else 2
/-- The rest of an expression, over a pile (its top at the end). -/
def exRun (key val time : Int) : List (Int × Int) → List Int → Int × Int
  | [], st => (st.getD 0 0, 0)
  | t :: x, st =>
    if t.1 = 0 then exRun key val time x (st ++ [t.2]) else if t.1 = 1 then exRun key val time x (st ++ [key])
    else if t.1 = 2 then exRun key val time x (st ++ [val]) else if t.1 = 3 then exRun key val time x (st ++ [time])
    else if t.1 = 11 then exRun key val time x (st.set (st.length - 1) (if st.getD (st.length - 1) 0 = 0 then 1 else 0))
    else if exCode t.1 (st.getD (st.length - 2) 0) (st.getD (st.length - 1) 0) = 0 then exRun key val time x (st.take (st.length - 2) ++ [exTwo t.1 (st.getD (st.length - 2) 0) (st.getD (st.length - 1) 0)])
    else (0, exCode t.1 (st.getD (st.length - 2) 0) (st.getD (st.length - 1) 0))
def exEval (key val time : Int) (x : List (Int × Int)) : Int × Int := if exDepth x = -1 then (0, 1) else exRun key val time x []
end Go.Eng

namespace Go.Eng.T
open Go.Proofs Go.Eng
set_option maxRecDepth 100000
set_option maxHeartbeats 0

theorem TakesS.ac (o : Int) {K : V → List Obj → List Obj → Prop} (hK : K (iv (exTakes o)) [] []) : AC Try.prog 221 [iv o] [] K := by
  have hK' : ∀ x, x = exTakes o → K (iv x) [] [] := by rintro _ rfl; exact hK
  refine ac_body (ann []) [((997, 0), true)] hm htt Try.func221 rfl (by kernel_rfl) rfl rfl ?_
  repeat' ((conv => whnf); first
    | (refine bF_dec (fun _ => ?_) (fun _ => ?_) <;> try (exfalso; omega))
    | (refine bF_eq (fun _ => ?_) (fun _ => ?_) <;> try (exfalso; omega))
    | (refine bF_ne (fun _ => ?_) (fun _ => ?_) <;> try (exfalso; omega))
    | (refine a64 (by omega) ?_)
    | (refine ix_at rfl (by omega) ?_)
    | (refine ⟨⟨rfl, by omega, by omega⟩, ?_⟩)
    | (refine map_at (by omega) ?_)
    | (refine alen ?_)
    | (refine amin ?_)
    | (refine amax ?_)
    | (refine ⟨⟨rfl, rfl, by simp [V.ments, mentsL]⟩, ?_⟩)
    | (refine map_at0 (by omega) ?_)
    | (refine set_at rfl ?_)
    | (refine map_atI (by omega) ?_)
    | (refine map_atI0 (by omega) ?_)
    | (refine set_atI rfl ?_)
    | (refine ⟨⟨by decide, rfl, by omega, by omega, by omega, by dsimp only; omega⟩, ?_⟩)
    | (refine arem (by omega) ?_)
    | (refine aquo (by omega) (by omega) ?_)
    | (refine au8 ?_)
    | (refine au64 (by omega) ?_)
    | (refine anat ?_)
    | (refine szOk rfl ?_)
    | (refine dvOk rfl (by omega) ?_)
    | (refine nzOk (by decide) ?_)
    | (refine lgOk (by kernel_rfl) ?_)
    | (refine kpOk (by kernel_rfl) ?_)
    | fail)
  all_goals conv => whnf
  all_goals exact hK' _ (by unfold exTakes; (repeat' split) <;> omega)
theorem exDep_at {x : List (Int × Int)} {i : Nat} (h : i < x.length) (now most : Int) : exDep (x.drop i) now most = if exBad (x.getD i default) now then -1 else exDep (x.drop (i + 1)) (now + 1 - exTakes (x.getD i default).1) (max most (now + 1 - exTakes (x.getD i default).1)) := by
  rw [List.drop_eq_getElem_cons h, List.getD_eq_getElem?_getD, List.getElem?_eq_getElem h]; rfl
theorem exDep_end {x : List (Int × Int)} {i : Nat} (h : x.length ≤ i) (now most : Int) : exDep (x.drop i) now most = if now = 1 then most else -1 := by
  rw [List.drop_eq_nil_of_le h]; rfl
theorem DepthS.ac (x : List (Int × Int)) (hx : x.length ≤ 100000) {K : V → List Obj → List Obj → Prop} (hK : K (iv (exDepth x)) [] []) : AC Try.prog 167 [.is 2 (x.map encT)] [] K := by
  have hK' : ∀ r, r = exDepth x → K (iv r) [] [] := by rintro _ rfl; exact hK
  refine ac_body (ann [(6, [0, 3, 4, 5], [])]) [((997, 0), true)] hm htt Try.func167 rfl (by kernel_rfl) rfl rfl ?_
  repeat' ((conv => whnf); first
    | (refine bF_dec (fun _ => ?_) (fun _ => ?_) <;> try (exfalso; omega))
    | (refine bF_eq (fun _ => ?_) (fun _ => ?_) <;> try (exfalso; omega))
    | (refine bF_ne (fun _ => ?_) (fun _ => ?_) <;> try (exfalso; omega))
    | (refine a64 (by omega) ?_)
    | (refine ix_at rfl (by omega) ?_)
    | (refine ⟨⟨rfl, by omega, by omega⟩, ?_⟩)
    | (refine map_at (by omega) ?_)
    | (refine alen ?_)
    | (refine amin ?_)
    | (refine amax ?_)
    | (refine ⟨⟨rfl, rfl, by simp [V.ments, mentsL]⟩, ?_⟩)
    | (refine map_at0 (by omega) ?_)
    | (refine set_at rfl ?_)
    | (refine map_atI (by omega) ?_)
    | (refine map_atI0 (by omega) ?_)
    | (refine set_atI rfl ?_)
    | (refine ⟨⟨by decide, rfl, by omega, by omega, by omega, by dsimp only; omega⟩, ?_⟩)
    | (refine arem (by omega) ?_)
    | (refine aquo (by omega) (by omega) ?_)
    | (refine au8 ?_)
    | (refine au64 (by omega) ?_)
    | (refine anat ?_)
    | (refine szOk rfl ?_)
    | (refine dvOk rfl (by omega) ?_)
    | (refine nzOk (by decide) ?_)
    | (refine lgOk (by kernel_rfl) ?_)
    | (refine kpOk (by kernel_rfl) ?_)
    | fail)
  all_goals conv => whnf
  · exact hK' _ (by unfold exDepth; rw [if_pos (by omega)])
  · exact hK' _ (by unfold exDepth; rw [if_pos (by omega)])
  refine cwF_loop (fun m st => ∃ (i : Nat) (now most : Int), (m = x.length - i ∧ i ≤ x.length ∧ 0 ≤ now ∧ now ≤ i ∧ 0 ≤ most ∧ most ≤ i ∧ exDepth x = exDep (x.drop i) now most) ∧
    st = ⟨[.is 2 (x.map encT), .un, .un, iv now, iv most, iv i] ++ List.replicate 69 .un, mkOb []⟩) x.length (by kernel_rfl) ⟨0, 0, 0, ⟨rfl, by omega, by omega, by omega, by omega, by omega, by unfold exDepth; rw [if_neg (by omega), List.drop_zero]⟩, rfl⟩ ?_
  rintro m st ⟨i, now, most, ⟨rfl, hi, n0, n1, m0, m1, hd⟩, rfl⟩
  have hb := exTakes_b (x.getD i default).1
  repeat' ((conv => whnf); first
    | (refine TakesS.ac _ ?_)
    | (refine bF_dec (fun _ => ?_) (fun _ => ?_) <;> try (exfalso; omega))
    | (refine bF_eq (fun _ => ?_) (fun _ => ?_) <;> try (exfalso; omega))
    | (refine bF_ne (fun _ => ?_) (fun _ => ?_) <;> try (exfalso; omega))
    | (refine a64 (by omega) ?_)
    | (refine ix_at rfl (by omega) ?_)
    | (refine ⟨⟨rfl, by omega, by omega⟩, ?_⟩)
    | (refine map_at (by omega) ?_)
    | (refine alen ?_)
    | (refine amin ?_)
    | (refine amax ?_)
    | (refine ⟨⟨rfl, rfl, by simp [V.ments, mentsL]⟩, ?_⟩)
    | (refine map_at0 (by omega) ?_)
    | (refine set_at rfl ?_)
    | (refine map_atI (by omega) ?_)
    | (refine map_atI0 (by omega) ?_)
    | (refine set_atI rfl ?_)
    | (refine ⟨⟨by decide, rfl, by omega, by omega, by omega, by dsimp only; omega⟩, ?_⟩)
    | (refine arem (by omega) ?_)
    | (refine aquo (by omega) (by omega) ?_)
    | (refine au8 ?_)
    | (refine au64 (by omega) ?_)
    | (refine anat ?_)
    | (refine szOk rfl ?_)
    | (refine dvOk rfl (by omega) ?_)
    | (refine nzOk (by decide) ?_)
    | (refine lgOk (by kernel_rfl) ?_)
    | (refine kpOk (by kernel_rfl) ?_)
    | fail)
  all_goals conv => whnf
  all_goals first
    | exact hK' _ (by rw [hd, exDep_at (by omega), if_pos (by unfold exBad; omega)])
    | exact hK' _ (by rw [hd, exDep_end (by omega)]; first | rw [if_pos (by omega)] | rw [if_neg (by omega)])
    | (refine ⟨x.length - (i + 1), by omega, i + 1, _, _, ⟨rfl, ?_, ?_, ?_, ?_, ?_, ?_⟩, rfl⟩
       · omega
       · omega
       · omega
       · omega
       · omega
       · rw [hd, exDep_at (by omega), if_neg (by unfold exBad; omega)]
         congr 1 <;> omega)
theorem ExprOkS2 (x : List (Int × Int)) (hx : x.length ≤ 100000) : Two 90 [.is 2 (x.map encT)] (exDepth x ≠ -1) := fun hT hF => by
  have h1 := exDepth_one x
  refine ac_body (ann []) [((997, 0), true)] hm htt Try.func90 rfl (by kernel_rfl) rfl rfl ?_
  repeat' ((conv => whnf); first
    | (refine DepthS.ac x hx ?_)
    | (refine bF_dec (fun _ => ?_) (fun _ => ?_) <;> try (exfalso; omega))
    | (refine bF_eq (fun _ => ?_) (fun _ => ?_) <;> try (exfalso; omega))
    | (refine bF_ne (fun _ => ?_) (fun _ => ?_) <;> try (exfalso; omega))
    | (refine a64 (by omega) ?_)
    | (refine ix_at rfl (by omega) ?_)
    | (refine ⟨⟨rfl, by omega, by omega⟩, ?_⟩)
    | (refine map_at (by omega) ?_)
    | (refine alen ?_)
    | (refine amin ?_)
    | (refine amax ?_)
    | (refine ⟨⟨rfl, rfl, by simp [V.ments, mentsL]⟩, ?_⟩)
    | (refine map_at0 (by omega) ?_)
    | (refine set_at rfl ?_)
    | (refine map_atI (by omega) ?_)
    | (refine map_atI0 (by omega) ?_)
    | (refine set_atI rfl ?_)
    | (refine ⟨⟨by decide, rfl, by omega, by omega, by omega, by dsimp only; omega⟩, ?_⟩)
    | (refine arem (by omega) ?_)
    | (refine aquo (by omega) (by omega) ?_)
    | (refine au8 ?_)
    | (refine au64 (by omega) ?_)
    | (refine anat ?_)
    | (refine szOk rfl ?_)
    | (refine dvOk rfl (by omega) ?_)
    | (refine nzOk (by decide) ?_)
    | (refine lgOk (by kernel_rfl) ?_)
    | (refine kpOk (by kernel_rfl) ?_)
    | fail)
  all_goals conv => whnf
  · exact hT (by omega)
  · exact hF (by omega)
abbrev WkOk (k s t : Int) : Prop := (1 ≤ k ∧ k ≤ 3) ∧ (1 ≤ s ∧ s ≤ 100) ∧ (k ≠ 2 → t = 0) ∧ (k = 2 → 1 ≤ t ∧ t ≤ s ∧ s ≤ 8 * t)
abbrev KkOk (k n : Int) : Prop := (1 ≤ k ∧ k ≤ 5 ∧ n = 0) ∨ (k = 6 ∧ 1 ≤ n ∧ n ≤ 4)
def QrOk (q : QueryR) : Prop := exDepth q.f ≠ -1 ∧ exDepth q.m ≠ -1 ∧ WkOk q.wk q.ws q.wt ∧ KkOk q.k q.kk
theorem WinOkS2 (k s t : Int) (hk : I64 k) (hs : I64 s) (ht : I64 t) : Two 91 [.agg [iv k, iv s, iv t]] (WkOk k s t) := fun hT hF => by
  unfold I64 at *
  refine ac_body (ann []) [((997, 0), true), ((3, 0), true)] hm htt Try.func91 rfl (by kernel_rfl) rfl rfl ?_
  repeat' ((conv => whnf); first
    | (refine bF_dec (fun _ => ?_) (fun _ => ?_) <;> try (exfalso; omega))
    | (refine bF_eq (fun _ => ?_) (fun _ => ?_) <;> try (exfalso; omega))
    | (refine bF_ne (fun _ => ?_) (fun _ => ?_) <;> try (exfalso; omega))
    | (refine a64 (by omega) ?_)
    | (refine ix_at rfl (by omega) ?_)
    | (refine ⟨⟨rfl, by omega, by omega⟩, ?_⟩)
    | (refine map_at (by omega) ?_)
    | (refine alen ?_)
    | (refine amin ?_)
    | (refine amax ?_)
    | (refine ⟨⟨rfl, rfl, by simp [V.ments, mentsL]⟩, ?_⟩)
    | (refine map_at0 (by omega) ?_)
    | (refine set_at rfl ?_)
    | (refine map_atI (by omega) ?_)
    | (refine map_atI0 (by omega) ?_)
    | (refine set_atI rfl ?_)
    | (refine ⟨⟨by decide, rfl, by omega, by omega, by omega, by dsimp only; omega⟩, ?_⟩)
    | (refine arem (by omega) ?_)
    | (refine aquo (by omega) (by omega) ?_)
    | (refine au8 ?_)
    | (refine au64 (by omega) ?_)
    | (refine anat ?_)
    | (refine szOk rfl ?_)
    | (refine dvOk rfl (by omega) ?_)
    | (refine nzOk (by decide) ?_)
    | (refine lgOk (by kernel_rfl) ?_)
    | (refine kpOk (by kernel_rfl) ?_)
    | fail)
  all_goals conv => whnf
  all_goals first | exact hT (by unfold WkOk; omega) | exact hF (by unfold WkOk; omega)
theorem KindS2 (k n : Int) : Two 92 [iv k, iv n] (KkOk k n) := fun hT hF => by
  refine ac_body (ann []) [((997, 0), true)] hm htt Try.func92 rfl (by kernel_rfl) rfl rfl ?_
  repeat' ((conv => whnf); first
    | (refine bF_dec (fun _ => ?_) (fun _ => ?_) <;> try (exfalso; omega))
    | (refine bF_eq (fun _ => ?_) (fun _ => ?_) <;> try (exfalso; omega))
    | (refine bF_ne (fun _ => ?_) (fun _ => ?_) <;> try (exfalso; omega))
    | (refine a64 (by omega) ?_)
    | (refine ix_at rfl (by omega) ?_)
    | (refine ⟨⟨rfl, by omega, by omega⟩, ?_⟩)
    | (refine map_at (by omega) ?_)
    | (refine alen ?_)
    | (refine amin ?_)
    | (refine amax ?_)
    | (refine ⟨⟨rfl, rfl, by simp [V.ments, mentsL]⟩, ?_⟩)
    | (refine map_at0 (by omega) ?_)
    | (refine set_at rfl ?_)
    | (refine map_atI (by omega) ?_)
    | (refine map_atI0 (by omega) ?_)
    | (refine set_atI rfl ?_)
    | (refine ⟨⟨by decide, rfl, by omega, by omega, by omega, by dsimp only; omega⟩, ?_⟩)
    | (refine arem (by omega) ?_)
    | (refine aquo (by omega) (by omega) ?_)
    | (refine au8 ?_)
    | (refine au64 (by omega) ?_)
    | (refine anat ?_)
    | (refine szOk rfl ?_)
    | (refine dvOk rfl (by omega) ?_)
    | (refine nzOk (by decide) ?_)
    | (refine lgOk (by kernel_rfl) ?_)
    | (refine kpOk (by kernel_rfl) ?_)
    | fail)
  all_goals conv => whnf
  all_goals first | exact hT (by unfold KkOk; omega) | exact hF (by unfold KkOk; omega)
theorem QueryOkS2 (q : QueryR) (hf : q.f.length ≤ 100000) (hm' : q.m.length ≤ 100000) (h1 : I64 q.wk) (h2 : I64 q.ws) (h3 : I64 q.wt) : Two 29 [encQ q] (QrOk q) := fun hT hF => by
  refine ac_body (ann []) [((997, 0), true), ((3, 0), true)] hm htt Try.func29 rfl (by kernel_rfl) rfl rfl ?_
  repeat' ((conv => whnf); first
    | (refine ExprOkS2 q.f hf (fun _ => ?_) (fun _ => ?_))
    | (refine ExprOkS2 q.m hm' (fun _ => ?_) (fun _ => ?_))
    | (refine WinOkS2 _ _ _ h1 h2 h3 (fun _ => ?_) (fun _ => ?_))
    | (refine KindS2 _ _ (fun _ => ?_) (fun _ => ?_))
    | (refine bF_dec (fun _ => ?_) (fun _ => ?_) <;> try (exfalso; omega))
    | (refine bF_eq (fun _ => ?_) (fun _ => ?_) <;> try (exfalso; omega))
    | (refine bF_ne (fun _ => ?_) (fun _ => ?_) <;> try (exfalso; omega))
    | (refine a64 (by omega) ?_)
    | (refine ix_at rfl (by omega) ?_)
    | (refine ⟨⟨rfl, by omega, by omega⟩, ?_⟩)
    | (refine map_at (by omega) ?_)
    | (refine alen ?_)
    | (refine amin ?_)
    | (refine amax ?_)
    | (refine ⟨⟨rfl, rfl, by simp [V.ments, mentsL]⟩, ?_⟩)
    | (refine map_at0 (by omega) ?_)
    | (refine set_at rfl ?_)
    | (refine map_atI (by omega) ?_)
    | (refine map_atI0 (by omega) ?_)
    | (refine set_atI rfl ?_)
    | (refine ⟨⟨by decide, rfl, by omega, by omega, by omega, by dsimp only; omega⟩, ?_⟩)
    | (refine arem (by omega) ?_)
    | (refine aquo (by omega) (by omega) ?_)
    | (refine au8 ?_)
    | (refine au64 (by omega) ?_)
    | (refine anat ?_)
    | (refine szOk rfl ?_)
    | (refine dvOk rfl (by omega) ?_)
    | (refine nzOk (by decide) ?_)
    | (refine lgOk (by kernel_rfl) ?_)
    | (refine kpOk (by kernel_rfl) ?_)
    | fail)
  all_goals conv => whnf
  all_goals first | exact hT ⟨by assumption, by assumption, by assumption, by assumption⟩ | exact hF (fun h => absurd h.1 (by assumption)) | exact hF (fun h => absurd h.2.1 (by assumption)) | exact hF (fun h => absurd h.2.2.1 (by assumption)) | exact hF (fun h => absurd h.2.2.2 (by assumption))
end Go.Eng.T
