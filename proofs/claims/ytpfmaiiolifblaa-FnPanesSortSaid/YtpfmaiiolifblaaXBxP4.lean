import Derived.Test.YtpfmaiiolifblaaXBxP3
namespace Go.Eng.T
open Go.Proofs Go.Eng
set_option maxRecDepth 100000
set_option maxHeartbeats 0

theorem BoxPollS.ac (b : Bx) (f : Int) (hb : BxF b) {K : V → List Obj → List Obj → Prop} (hK : ∀ P, pollR b f P → K (.is 10 (P.map encIt)) [] []) : AC Try.prog 22 [encBx b, iv f] [] K := by
  refine AC.frz ?_
  have hl := hb.2.1
  have key : ∀ o, pollR b f o → ∃ v' news' n es, [rowIt o] = news' ++ [.arr true n es] ∧ LendR (1, news'.length) n es (.ls (1, 0) 10 0 o.length) v' ∧ (∀ x ∈ ([] : List Obj) ++ news', (1, news'.length) ∉ x.ments) ∧ K v' [] news' := fun o ho => frz1 (by simp) (hK o ho)
  have hli : (b.its.map encIt).length = b.its.length := List.length_map ..
  refine ac_body (annM [(75, [0])] [(3, [1, 2, 5, 6], [(4, 0), (9, 1)])] [(3, [((9, 1), [9, 36])])]) [((997, 0), true), ((4, 0), true), ((9, 0), false), ((9, 1), false), ((35, 0), true), ((36, 0), false), ((38, 0), false)] hm htt Try.func22 rfl (by kernel_rfl) rfl rfl ?_
  repeat' ((conv => whnf); first
    | (refine bF_dec (fun _ => ?_) (fun _ => ?_) <;> try (exfalso; omega))
    | (refine bF_eq (fun _ => ?_) (fun _ => ?_) <;> try (exfalso; omega))
    | (refine bF_ne (fun _ => ?_) (fun _ => ?_) <;> try (exfalso; omega))
    | (refine a64 (by omega) ?_)
    | (refine ix_at rfl (by omega) ?_)
    | (refine ⟨⟨rfl, by omega, by omega⟩, ?_⟩)
    | (refine map_at (by omega) ?_)
    | (refine alen ?_)
    | (refine amin ?_)
    | (refine amax ?_)
    | (refine ⟨⟨rfl, rfl, by simp [V.ments, mentsL]⟩, ?_⟩)
    | (refine map_at0 (by omega) ?_)
    | (refine set_at rfl ?_)
    | (refine map_atI (by omega) ?_)
    | (refine map_atI0 (by omega) ?_)
    | (refine set_atI rfl ?_)
    | (refine ⟨⟨by decide, rfl, by omega, by omega, by omega, by dsimp only; omega⟩, ?_⟩)
    | (refine arem (by omega) ?_)
    | (refine aquo (by omega) (by omega) ?_)
    | (refine au8 ?_)
    | (refine au64 (by omega) ?_)
    | (refine anat ?_)
    | (refine szOk rfl ?_)
    | (refine dvOk rfl (by omega) ?_)
    | (refine nzOk (by decide) ?_)
    | (refine lgOk (by kernel_rfl) ?_)
    | (refine kpOk (by kernel_rfl) ?_)
    | fail)
  all_goals conv => whnf
  refine cwF_loop (fun m st => ∃ (i : Nat) (o : List It), (m = b.its.length - i ∧ i ≤ b.its.length ∧ o = pollB (b.its.take i) f ∧ (0 < i → BxOk b)) ∧
    st = ⟨[.un, iv f, .lp (4, 0) 6 0 0, .un, .un, .ls (9, 1) 10 0 o.length, iv i] ++ List.replicate 30 .un, mkOb [((4, 0), some (.arr false 6 [encBx b])), ((9, 1), some (rowIt o))]⟩) b.its.length (by kernel_rfl) ⟨0, [], ⟨rfl, by omega, rfl, fun h => absurd h (by omega)⟩, rfl⟩ ?_
  rintro m st ⟨i, o, ⟨rfl, hi, ho, hok⟩, rfl⟩
  have hol : o.length ≤ b.its.length := by rw [ho]; exact Nat.le_trans (poll_len _ _) (by rw [List.length_take]; omega)
  have hov : ∀ t ∈ o, t.p.v.length ≤ 100000 := fun t ht => hb.2.2.2 t (List.mem_of_mem_take (List.mem_filter.1 (ho ▸ ht)).1)
  repeat' ((conv => whnf); first
    | (refine BoxOkS2 b hb (fun _ => ?_) (fun _ => ?_))
    | (refine app1 (f := encIt) (x := b.its.getD i default) ⟨by decide, rfl, rfl, by simp, ⟨by simp; omega, by simp; omega⟩, rfl, by simp [mentsOne]⟩ rfl ?_)
    | (refine all_at (f := encIt) (l := o) ⟨rfl, by simp⟩ ?_)
    | (refine itemsS.new o (by omega) hov ?_)
    | (refine bF_dec (fun _ => ?_) (fun _ => ?_) <;> try (exfalso; omega))
    | (refine bF_eq (fun _ => ?_) (fun _ => ?_) <;> try (exfalso; omega))
    | (refine bF_ne (fun _ => ?_) (fun _ => ?_) <;> try (exfalso; omega))
    | (refine a64 (by omega) ?_)
    | (refine ix_at rfl (by omega) ?_)
    | (refine ⟨⟨rfl, by omega, by omega⟩, ?_⟩)
    | (refine map_at (by omega) ?_)
    | (refine alen ?_)
    | (refine amin ?_)
    | (refine amax ?_)
    | (refine ⟨⟨rfl, rfl, by simp [V.ments, mentsL]⟩, ?_⟩)
    | (refine map_at0 (by omega) ?_)
    | (refine set_at rfl ?_)
    | (refine map_atI (by omega) ?_)
    | (refine map_atI0 (by omega) ?_)
    | (refine set_atI rfl ?_)
    | (refine ⟨⟨by decide, rfl, by omega, by omega, by omega, by dsimp only; omega⟩, ?_⟩)
    | (refine arem (by omega) ?_)
    | (refine aquo (by omega) (by omega) ?_)
    | (refine au8 ?_)
    | (refine au64 (by omega) ?_)
    | (refine anat ?_)
    | (refine szOk rfl ?_)
    | (refine dvOk rfl (by omega) ?_)
    | (refine nzOk (by decide) ?_)
    | (refine lgOk (by kernel_rfl) ?_)
    | (refine kpOk (by kernel_rfl) ?_)
    | fail)
  all_goals conv => whnf
  · exact ⟨b.its.length - (i + 1), by omega, i + 1, _, ⟨rfl, by omega, by rw [poll_snoc (by omega), ← ho, if_pos (by omega)], fun _ => by assumption⟩, rfl⟩
  · exact ⟨b.its.length - (i + 1), by omega, i + 1, _, ⟨rfl, by omega, by rw [poll_snoc (by omega), ← ho, if_neg (by omega), List.append_nil], fun _ => by assumption⟩, rfl⟩
  · exact key o ⟨fun _ => by rw [ho, List.take_of_length_le (by omega)], fun h => absurd (by assumption) h⟩
  · have h0 : i = 0 := by
      cases i with
      | zero => rfl
      | succ n => exact absurd (hok (by omega)) (by assumption)
    subst h0
    exact key o ⟨fun h => absurd h (by assumption), fun _ => ho⟩
theorem sameT (v : List Int) (hv : v.length ≤ 100000) {K : V → List Obj → List Obj → Prop} (hK : K (bv true) [] []) : AC Try.prog 44 [.is 1 (v.map iv), .is 1 (v.map iv)] [] K := by
  refine ac_body (ann [(4, [0, 1, 5], [])]) [((997, 0), true)] hm htt Try.func44 rfl (by kernel_rfl) rfl rfl ?_
  repeat' ((conv => whnf); first
    | (refine bF_dec (fun _ => ?_) (fun _ => ?_) <;> try (exfalso; omega))
    | (refine bF_eq (fun _ => ?_) (fun _ => ?_) <;> try (exfalso; omega))
    | (refine bF_ne (fun _ => ?_) (fun _ => ?_) <;> try (exfalso; omega))
    | (refine a64 (by omega) ?_)
    | (refine ix_at rfl (by omega) ?_)
    | (refine ⟨⟨rfl, by omega, by omega⟩, ?_⟩)
    | (refine map_at (by omega) ?_)
    | (refine alen ?_)
    | (refine amin ?_)
    | (refine amax ?_)
    | (refine ⟨⟨rfl, rfl, by simp [V.ments, mentsL]⟩, ?_⟩)
    | (refine map_at0 (by omega) ?_)
    | (refine set_at rfl ?_)
    | (refine map_atI (by omega) ?_)
    | (refine map_atI0 (by omega) ?_)
    | (refine set_atI rfl ?_)
    | (refine ⟨⟨by decide, rfl, by omega, by omega, by omega, by dsimp only; omega⟩, ?_⟩)
    | (refine arem (by omega) ?_)
    | (refine aquo (by omega) (by omega) ?_)
    | (refine au8 ?_)
    | (refine au64 (by omega) ?_)
    | (refine anat ?_)
    | (refine szOk rfl ?_)
    | (refine dvOk rfl (by omega) ?_)
    | (refine nzOk (by decide) ?_)
    | (refine lgOk (by kernel_rfl) ?_)
    | (refine kpOk (by kernel_rfl) ?_)
    | fail)
  all_goals conv => whnf
  refine cwF_loop (fun m st => ∃ (i : Nat), (m = v.length - i ∧ i ≤ v.length) ∧
    st = ⟨[.is 1 (v.map iv), .is 1 (v.map iv), .un, .un, .un, iv i] ++ List.replicate 20 .un, mkOb []⟩) v.length (by kernel_rfl) ⟨0, ⟨rfl, by omega⟩, rfl⟩ ?_
  rintro m st ⟨i, ⟨rfl, hi⟩, rfl⟩
  repeat' ((conv => whnf); first
    | (refine bF_dec (fun _ => ?_) (fun _ => ?_) <;> try (exfalso; omega))
    | (refine bF_eq (fun _ => ?_) (fun _ => ?_) <;> try (exfalso; omega))
    | (refine bF_ne (fun _ => ?_) (fun _ => ?_) <;> try (exfalso; omega))
    | (refine a64 (by omega) ?_)
    | (refine ix_at rfl (by omega) ?_)
    | (refine ⟨⟨rfl, by omega, by omega⟩, ?_⟩)
    | (refine map_at (by omega) ?_)
    | (refine alen ?_)
    | (refine amin ?_)
    | (refine amax ?_)
    | (refine ⟨⟨rfl, rfl, by simp [V.ments, mentsL]⟩, ?_⟩)
    | (refine map_at0 (by omega) ?_)
    | (refine set_at rfl ?_)
    | (refine map_atI (by omega) ?_)
    | (refine map_atI0 (by omega) ?_)
    | (refine set_atI rfl ?_)
    | (refine ⟨⟨by decide, rfl, by omega, by omega, by omega, by dsimp only; omega⟩, ?_⟩)
    | (refine arem (by omega) ?_)
    | (refine aquo (by omega) (by omega) ?_)
    | (refine au8 ?_)
    | (refine au64 (by omega) ?_)
    | (refine anat ?_)
    | (refine szOk rfl ?_)
    | (refine dvOk rfl (by omega) ?_)
    | (refine nzOk (by decide) ?_)
    | (refine lgOk (by kernel_rfl) ?_)
    | (refine kpOk (by kernel_rfl) ?_)
    | fail)
  all_goals conv => whnf
  all_goals first
    | exact ⟨v.length - (i + 1), by omega, i + 1, ⟨rfl, by omega⟩, rfl⟩
    | exact hK
    | exact absurd rfl (by assumption)
theorem samePaneT (p : Pn) (hv : p.v.length ≤ 100000) {K : V → List Obj → List Obj → Prop} (hK : K (bv true) [] []) : AC Try.prog 69 [encPn p, encPn p] [] K := by
  refine ac_body (ann []) [((997, 0), true), ((4, 0), true), ((5, 0), true)] hm htt Try.func69 rfl (by kernel_rfl) rfl rfl ?_
  repeat' ((conv => whnf); first
    | (refine sameT p.v hv ?_)
    | (refine bF_dec (fun _ => ?_) (fun _ => ?_) <;> try (exfalso; omega))
    | (refine bF_eq (fun _ => ?_) (fun _ => ?_) <;> try (exfalso; omega))
    | (refine bF_ne (fun _ => ?_) (fun _ => ?_) <;> try (exfalso; omega))
    | (refine a64 (by omega) ?_)
    | (refine ix_at rfl (by omega) ?_)
    | (refine ⟨⟨rfl, by omega, by omega⟩, ?_⟩)
    | (refine map_at (by omega) ?_)
    | (refine alen ?_)
    | (refine amin ?_)
    | (refine amax ?_)
    | (refine ⟨⟨rfl, rfl, by simp [V.ments, mentsL]⟩, ?_⟩)
    | (refine map_at0 (by omega) ?_)
    | (refine set_at rfl ?_)
    | (refine map_atI (by omega) ?_)
    | (refine map_atI0 (by omega) ?_)
    | (refine set_atI rfl ?_)
    | (refine ⟨⟨by decide, rfl, by omega, by omega, by omega, by dsimp only; omega⟩, ?_⟩)
    | (refine arem (by omega) ?_)
    | (refine aquo (by omega) (by omega) ?_)
    | (refine au8 ?_)
    | (refine au64 (by omega) ?_)
    | (refine anat ?_)
    | (refine szOk rfl ?_)
    | (refine dvOk rfl (by omega) ?_)
    | (refine nzOk (by decide) ?_)
    | (refine lgOk (by kernel_rfl) ?_)
    | (refine kpOk (by kernel_rfl) ?_)
    | fail)
  all_goals conv => whnf
  all_goals first
    | exact hK
    | exact absurd rfl (by assumption)
theorem sameItemsT (l : List It) (hl : l.length ≤ 100000) (hv : ∀ t ∈ l, t.p.v.length ≤ 100000) {K : V → List Obj → List Obj → Prop} (hK : K (bv true) [] []) : AC Try.prog 19 [.is 10 (l.map encIt), .is 10 (l.map encIt)] [] K := by
  refine ac_body (ann [(4, [0, 1, 5], [])]) [((997, 0), true)] hm htt Try.func19 rfl (by kernel_rfl) rfl rfl ?_
  repeat' ((conv => whnf); first
    | (refine bF_dec (fun _ => ?_) (fun _ => ?_) <;> try (exfalso; omega))
    | (refine bF_eq (fun _ => ?_) (fun _ => ?_) <;> try (exfalso; omega))
    | (refine bF_ne (fun _ => ?_) (fun _ => ?_) <;> try (exfalso; omega))
    | (refine a64 (by omega) ?_)
    | (refine ix_at rfl (by omega) ?_)
    | (refine ⟨⟨rfl, by omega, by omega⟩, ?_⟩)
    | (refine map_at (by omega) ?_)
    | (refine alen ?_)
    | (refine amin ?_)
    | (refine amax ?_)
    | (refine ⟨⟨rfl, rfl, by simp [V.ments, mentsL]⟩, ?_⟩)
    | (refine map_at0 (by omega) ?_)
    | (refine set_at rfl ?_)
    | (refine map_atI (by omega) ?_)
    | (refine map_atI0 (by omega) ?_)
    | (refine set_atI rfl ?_)
    | (refine ⟨⟨by decide, rfl, by omega, by omega, by omega, by dsimp only; omega⟩, ?_⟩)
    | (refine arem (by omega) ?_)
    | (refine aquo (by omega) (by omega) ?_)
    | (refine au8 ?_)
    | (refine au64 (by omega) ?_)
    | (refine anat ?_)
    | (refine szOk rfl ?_)
    | (refine dvOk rfl (by omega) ?_)
    | (refine nzOk (by decide) ?_)
    | (refine lgOk (by kernel_rfl) ?_)
    | (refine kpOk (by kernel_rfl) ?_)
    | fail)
  all_goals conv => whnf
  refine cwF_loop (fun m st => ∃ (i : Nat), (m = l.length - i ∧ i ≤ l.length) ∧
    st = ⟨[.is 10 (l.map encIt), .is 10 (l.map encIt), .un, .un, .un, iv i] ++ List.replicate 49 .un, mkOb []⟩) l.length (by kernel_rfl) ⟨0, ⟨rfl, by omega⟩, rfl⟩ ?_
  rintro m st ⟨i, ⟨rfl, hi⟩, rfl⟩
  have hgv : (l.getD i default).p.v.length ≤ 100000 := by
    by_cases h : i < l.length
    · rw [List.getD_eq_getElem?_getD, List.getElem?_eq_getElem h]; exact hv _ (List.getElem_mem h)
    · rw [List.getD_eq_getElem?_getD, List.getElem?_eq_none (by omega)]; exact Nat.zero_le _
  repeat' ((conv => whnf); first
    | (refine samePaneT (l.getD i default).p hgv ?_)
    | (refine bF_dec (fun _ => ?_) (fun _ => ?_) <;> try (exfalso; omega))
    | (refine bF_eq (fun _ => ?_) (fun _ => ?_) <;> try (exfalso; omega))
    | (refine bF_ne (fun _ => ?_) (fun _ => ?_) <;> try (exfalso; omega))
    | (refine a64 (by omega) ?_)
    | (refine ix_at rfl (by omega) ?_)
    | (refine ⟨⟨rfl, by omega, by omega⟩, ?_⟩)
    | (refine map_at (by omega) ?_)
    | (refine alen ?_)
    | (refine amin ?_)
    | (refine amax ?_)
    | (refine ⟨⟨rfl, rfl, by simp [V.ments, mentsL]⟩, ?_⟩)
    | (refine map_at0 (by omega) ?_)
    | (refine set_at rfl ?_)
    | (refine map_atI (by omega) ?_)
    | (refine map_atI0 (by omega) ?_)
    | (refine set_atI rfl ?_)
    | (refine ⟨⟨by decide, rfl, by omega, by omega, by omega, by dsimp only; omega⟩, ?_⟩)
    | (refine arem (by omega) ?_)
    | (refine aquo (by omega) (by omega) ?_)
    | (refine au8 ?_)
    | (refine au64 (by omega) ?_)
    | (refine anat ?_)
    | (refine szOk rfl ?_)
    | (refine dvOk rfl (by omega) ?_)
    | (refine nzOk (by decide) ?_)
    | (refine lgOk (by kernel_rfl) ?_)
    | (refine kpOk (by kernel_rfl) ?_)
    | fail)
  all_goals conv => whnf
  all_goals first
    | exact ⟨l.length - (i + 1), by omega, i + 1, ⟨rfl, by omega⟩, rfl⟩
    | exact hK
    | exact absurd rfl (by assumption)
end Go.Eng.T
