import Derived.Test.YtpfmaiiolifblaaXAgS
namespace Go.Eng.T
open Go.Proofs Go.Eng
set_option maxRecDepth 100000
set_option maxHeartbeats 0

abbrev encAg (a : Ag) : V := .agg [iv a.n, iv (whi a.s), uv (wlo a.s), iv a.mn, iv a.mx, .is 1 (a.top.map iv)]
def Ints (l : List Int) : Prop := ∀ x ∈ l, I64 x
theorem Ints.get {l : List Int} (h : Ints l) (i : Nat) : I64 (l.getD i default) := by
  by_cases hi : i < l.length
  · rw [List.getD_eq_getElem?_getD, List.getElem?_eq_getElem hi]; exact h _ (List.getElem_mem hi)
  · rw [List.getD_eq_getElem?_getD, List.getElem?_eq_none (by omega)]; exact ⟨by decide, by decide⟩
theorem TopOfS.nil (b : List Int) (lb : b.length ≤ 100000) {K : V → List Obj → List Obj → Prop} (hK : K (.is 1 ((top4 b).map iv)) [] []) : AC Try.prog 139 [nilS, .is 1 (b.map iv)] [] K := by
  refine AC.args (ys := [.is 1 (([] : List Int).map iv), .is 1 (b.map iv)]) rfl (fun i y hy => ?_) (TopOfS.ac [] b (by simp) lb hK)
  match i, hy with
  | 0, hy => obtain rfl : V.is 1 (([] : List Int).map iv) = y := by simpa using hy
             exact ⟨_, rfl, fun h => nil_is h⟩
  | 1, hy => exact ⟨y, hy, fun h => h⟩
theorem drop_one {l : List Int} {i : Nat} (h : i < l.length) : (l.drop i).take 1 = [l.getD i default] := by
  have := take_step (D := l) (a := i) (j := 0) (by omega)
  rw [Nat.add_zero, List.take_zero, List.nil_append] at this; exact this
theorem agg_first {l : List Int} (h : 0 < l.length) : sumL (l.take 1) = l.getD 0 default ∧ minL (l.take 1) = l.getD 0 default ∧ maxL (l.take 1) = l.getD 0 default ∧ l.take 1 = [l.getD 0 default] := by
  have e : l.take 1 = [l.getD 0 default] := by have := drop_one h; rwa [List.drop_zero] at this
  rw [e]; exact ⟨by unfold sumL; simp, rfl, rfl, rfl⟩
theorem agg_more {l : List Int} {i : Nat} (h0 : 0 < i) (h : i < l.length) : sumL (l.take (i + 1)) = sumL (l.take i) + l.getD i default ∧ minL (l.take (i + 1)) = min (minL (l.take i)) (l.getD i default) ∧ maxL (l.take (i + 1)) = max (maxL (l.take i)) (l.getD i default) ∧ top4 (top4 (l.take i) ++ (l.drop i).take 1) = top4 (l.take (i + 1)) := by
  have hn : l.take i ≠ [] := fun e => by have := congrArg List.length e; rw [List.length_take, List.length_nil] at this; omega
  rw [drop_one h, ← take_succD h, top4_top4, sumL_append, minL_append hn (by simp), maxL_append hn (by simp)]
  refine ⟨by simp [sumL], rfl, rfl, rfl⟩
theorem AggOfS.ac (l : List Int) (hi : Ints l) (hl : l.length ≤ 100000) {K : V → List Obj → List Obj → Prop} (h0 : l = [] → K (.agg [iv 0, iv 0, uv 0, iv 0, iv 0, nilS]) [] []) (h1 : l ≠ [] → K (encAg (agOf l)) [] []) : AC Try.prog 56 [.is 1 (l.map iv)] [] K := by
  have hlm : (l.map iv).length = l.length := List.length_map ..
  have h1' : ∀ s mn mx tp, l ≠ [] → s = sumL l → mn = minL l → mx = maxL l → tp = top4 l → K (.agg [iv l.length, iv (whi s), uv (wlo s), iv mn, iv mx, .is 1 (tp.map iv)]) [] [] := by
    rintro _ _ _ _ hn rfl rfl rfl rfl; exact h1 hn
  refine ac_body (ann [(5, [0, 2, 3, 4], [(4, 0), (5, 0)])]) [((997, 0), true), ((4, 0), true), ((5, 0), true)] hm htt Try.func56 rfl (by kernel_rfl) rfl rfl ?_
  repeat' ((conv => whnf); first
    | (refine bF_dec (fun _ => ?_) (fun _ => ?_) <;> try (exfalso; omega))
    | (refine bF_eq (fun _ => ?_) (fun _ => ?_) <;> try (exfalso; omega))
    | (refine bF_ne (fun _ => ?_) (fun _ => ?_) <;> try (exfalso; omega))
    | (refine a64 (by omega) ?_)
    | (refine ix_at rfl (by omega) ?_)
    | (refine ⟨⟨rfl, by omega, by omega⟩, ?_⟩)
    | (refine map_at (by omega) ?_)
    | (refine alen ?_)
    | (refine amin ?_)
    | (refine amax ?_)
    | (refine ⟨⟨rfl, rfl, by simp [V.ments, mentsL]⟩, ?_⟩)
    | (refine map_at0 (by omega) ?_)
    | (refine set_at rfl ?_)
    | (refine map_atI (by omega) ?_)
    | (refine map_atI0 (by omega) ?_)
    | (refine set_atI rfl ?_)
    | (refine ⟨⟨by decide, rfl, by omega, by omega, by omega, by dsimp only; omega⟩, ?_⟩)
    | (refine arem (by omega) ?_)
    | (refine aquo (by omega) (by omega) ?_)
    | (refine au8 ?_)
    | (refine au64 (by omega) ?_)
    | (refine anat ?_)
    | (refine szOk rfl ?_)
    | (refine dvOk rfl (by omega) ?_)
    | (refine nzOk (by decide) ?_)
    | (refine lgOk (by kernel_rfl) ?_)
    | (refine kpOk (by kernel_rfl) ?_)
    | fail)
  all_goals conv => whnf
  · exact h0 ((List.length_eq_zero_iff (l := l)).1 (by omega))
  refine cwF_loop (fun m st => ∃ (i : Nat), (m = l.length - i ∧ i ≤ l.length ∧ 0 < l.length) ∧
      ((i = 0 ∧ st = ⟨[.is 1 (l.map iv), .un, .lp (4, 0) 6 0 0, .lp (5, 0) 6 0 0, iv i] ++ List.replicate 59 .un, mkOb [((4, 0), some (.arr false 6 [.agg [iv 0, iv 0, uv 0, iv 0, iv 0, nilS]])), ((5, 0), some (.arr false 6 [.agg [iv l.length, iv 0, uv 0, iv (l.getD 0 default), iv (l.getD 0 default), nilS]]))]⟩) ∨
       ∃ (s mn mx : Int) (tp : List Int), (0 < i ∧ s = sumL (l.take i) ∧ mn = minL (l.take i) ∧ mx = maxL (l.take i) ∧ tp = top4 (l.take i)) ∧
         st = ⟨[.is 1 (l.map iv), .un, .lp (4, 0) 6 0 0, .lp (5, 0) 6 0 0, iv i] ++ List.replicate 59 .un, mkOb [((4, 0), some (.arr false 6 [.agg [iv 0, iv 0, uv 0, iv 0, iv 0, nilS]])), ((5, 0), some (.arr false 6 [.agg [iv l.length, iv (whi s), uv (wlo s), iv mn, iv mx, .is 1 (tp.map iv)]]))]⟩)) l.length (by kernel_rfl) ⟨0, ⟨rfl, by omega, by omega⟩, .inl ⟨rfl, rfl⟩⟩ ?_
  rintro m st ⟨i, ⟨rfl, hil, hpos⟩, ⟨rfl, rfl⟩ | ⟨s, mn, mx, tp, ⟨hip, hs, hmn, hmx, htp⟩, rfl⟩⟩
  · repeat' ((conv => whnf); first
      | (refine WideOfS.ac _ (hi.get _) ?_)
      | (refine WideAddS.ac 0 _ ?_)
      | (refine cutN 0 1 (by simp only [List.length_map]; omega) (by omega) (by omega) ?_)
      | (refine TopOfS.nil _ (by simp; omega) ?_)
      | (refine bF_dec (fun _ => ?_) (fun _ => ?_) <;> try (exfalso; omega))
      | (refine bF_eq (fun _ => ?_) (fun _ => ?_) <;> try (exfalso; omega))
      | (refine bF_ne (fun _ => ?_) (fun _ => ?_) <;> try (exfalso; omega))
      | (refine a64 (by omega) ?_)
      | (refine ix_at rfl (by omega) ?_)
      | (refine ⟨⟨rfl, by omega, by omega⟩, ?_⟩)
      | (refine map_at (by omega) ?_)
      | (refine alen ?_)
      | (refine amin ?_)
      | (refine amax ?_)
      | (refine ⟨⟨rfl, rfl, by simp [V.ments, mentsL]⟩, ?_⟩)
      | (refine map_at0 (by omega) ?_)
      | (refine set_at rfl ?_)
      | (refine map_atI (by omega) ?_)
      | (refine map_atI0 (by omega) ?_)
      | (refine set_atI rfl ?_)
      | (refine ⟨⟨by decide, rfl, by omega, by omega, by omega, by dsimp only; omega⟩, ?_⟩)
      | (refine arem (by omega) ?_)
      | (refine aquo (by omega) (by omega) ?_)
      | (refine au8 ?_)
      | (refine au64 (by omega) ?_)
      | (refine anat ?_)
      | (refine szOk rfl ?_)
      | (refine dvOk rfl (by omega) ?_)
      | (refine nzOk (by decide) ?_)
      | (refine lgOk (by kernel_rfl) ?_)
      | (refine kpOk (by kernel_rfl) ?_)
      | fail)
    all_goals conv => whnf
    obtain ⟨e1, e2, e3, e4⟩ := agg_first hpos
    refine ⟨l.length - 1, by omega, 1, ⟨rfl, by omega, by omega⟩, .inr ⟨_, _, _, _, ⟨by omega, ?_, ?_, ?_, ?_⟩, rfl⟩⟩
    · rw [e1]; exact Int.zero_add _
    · rw [e2]; exact Int.min_self _
    · rw [e3]; exact Int.max_self _
    · rw [List.drop_zero]
  · have htl : tp.length ≤ 100000 := by rw [htp, top4_length]; omega
    repeat' ((conv => whnf); first
      | (refine WideOfS.ac _ (hi.get _) ?_)
      | (refine WideAddS.ac _ _ ?_)
      | (refine cutN i 1 (by simp only [List.length_map]; omega) (by omega) (by omega) ?_)
      | (refine TopOfS.ac tp _ htl (by simp; omega) ?_)
      | (refine bF_dec (fun _ => ?_) (fun _ => ?_) <;> try (exfalso; omega))
      | (refine bF_eq (fun _ => ?_) (fun _ => ?_) <;> try (exfalso; omega))
      | (refine bF_ne (fun _ => ?_) (fun _ => ?_) <;> try (exfalso; omega))
      | (refine a64 (by omega) ?_)
      | (refine ix_at rfl (by omega) ?_)
      | (refine ⟨⟨rfl, by omega, by omega⟩, ?_⟩)
      | (refine map_at (by omega) ?_)
      | (refine alen ?_)
      | (refine amin ?_)
      | (refine amax ?_)
      | (refine ⟨⟨rfl, rfl, by simp [V.ments, mentsL]⟩, ?_⟩)
      | (refine map_at0 (by omega) ?_)
      | (refine set_at rfl ?_)
      | (refine map_atI (by omega) ?_)
      | (refine map_atI0 (by omega) ?_)
      | (refine set_atI rfl ?_)
      | (refine ⟨⟨by decide, rfl, by omega, by omega, by omega, by dsimp only; omega⟩, ?_⟩)
      | (refine arem (by omega) ?_)
      | (refine aquo (by omega) (by omega) ?_)
      | (refine au8 ?_)
      | (refine au64 (by omega) ?_)
      | (refine anat ?_)
      | (refine szOk rfl ?_)
      | (refine dvOk rfl (by omega) ?_)
      | (refine nzOk (by decide) ?_)
      | (refine lgOk (by kernel_rfl) ?_)
      | (refine kpOk (by kernel_rfl) ?_)
      | fail)
    all_goals conv => whnf
    · obtain ⟨e1, e2, e3, e4⟩ := agg_more hip (by omega : i < l.length)
      refine ⟨l.length - (i + 1), by omega, i + 1, ⟨rfl, by omega, by omega⟩, .inr ⟨_, _, _, _, ⟨by omega, ?_, ?_, ?_, ?_⟩, rfl⟩⟩
      · rw [e1, hs]
      · rw [e2, hmn]
      · rw [e3, hmx]
      · rw [← e4, htp]
    · have hfull : l.take i = l := List.take_of_length_le (by omega)
      rw [hfull] at hs hmn hmx htp
      exact h1' _ _ _ _ (fun e => by rw [e] at hpos; simp at hpos) hs hmn hmx htp
end Go.Eng.T
