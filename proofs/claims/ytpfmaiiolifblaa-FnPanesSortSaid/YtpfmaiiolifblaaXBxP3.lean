import Derived.Test.YtpfmaiiolifblaaXBxP2
import Derived.Test.YtpfmaiiolifblaaXBxP
import Derived.Test.YtpfmaiiolifblaaXBxS4
namespace Go.Eng.T
open Go.Proofs Go.Eng
set_option maxRecDepth 100000
set_option maxHeartbeats 0

theorem copyPnI.ac (p : Pn) (hl : p.v.length ≤ 100000) {K : V → List Obj → List Obj → Prop} (hK : K (encPn p) [] []) : AC Try.prog 128 [encPn p] [] K := by
  refine ac_body (ann []) [((997, 0), true), ((3, 0), true), ((4, 0), true)] hm htt Try.func128 rfl (by kernel_rfl) rfl rfl ?_
  repeat' ((conv => whnf); first
    | (refine cloneI.ac p.v hl ?_)
    | (refine bF_dec (fun _ => ?_) (fun _ => ?_) <;> try (exfalso; omega))
    | (refine bF_eq (fun _ => ?_) (fun _ => ?_) <;> try (exfalso; omega))
    | (refine bF_ne (fun _ => ?_) (fun _ => ?_) <;> try (exfalso; omega))
    | (refine a64 (by omega) ?_)
    | (refine ix_at rfl (by omega) ?_)
    | (refine ⟨⟨rfl, by omega, by omega⟩, ?_⟩)
    | (refine map_at (by omega) ?_)
    | (refine alen ?_)
    | (refine amin ?_)
    | (refine amax ?_)
    | (refine ⟨⟨rfl, rfl, by simp [V.ments, mentsL]⟩, ?_⟩)
    | (refine map_at0 (by omega) ?_)
    | (refine set_at rfl ?_)
    | (refine map_atI (by omega) ?_)
    | (refine map_atI0 (by omega) ?_)
    | (refine set_atI rfl ?_)
    | (refine ⟨⟨by decide, rfl, by omega, by omega, by omega, by dsimp only; omega⟩, ?_⟩)
    | (refine arem (by omega) ?_)
    | (refine aquo (by omega) (by omega) ?_)
    | (refine au8 ?_)
    | (refine au64 (by omega) ?_)
    | (refine anat ?_)
    | (refine szOk rfl ?_)
    | (refine dvOk rfl (by omega) ?_)
    | (refine nzOk (by decide) ?_)
    | (refine lgOk (by kernel_rfl) ?_)
    | (refine kpOk (by kernel_rfl) ?_)
    | fail)
  all_goals conv => whnf
  exact hK
theorem itemsI.new (l : List It) (hl : l.length ≤ 1000) (hv : ∀ t ∈ l, t.p.v.length ≤ 100000) {K : V → List Obj → List Obj → Prop} (hK : K (.ls (1, 0) 10 0 l.length) [] [rowIt l]) : AC Try.prog 146 [.is 10 (l.map encIt)] [] K := by
  refine ac_body (annW [] [(3, [3, 7, 8, 9], [(8, 1)])] [(3, (8, 1), [8, 25])]) [((997, 0), true), ((8, 0), false), ((8, 1), false), ((7, 0), true), ((24, 0), true), ((25, 0), false)] hm htt Try.func146 rfl (by kernel_rfl) rfl rfl ?_
  repeat' ((conv => whnf); first
    | (refine bF_dec (fun _ => ?_) (fun _ => ?_) <;> try (exfalso; omega))
    | (refine bF_eq (fun _ => ?_) (fun _ => ?_) <;> try (exfalso; omega))
    | (refine bF_ne (fun _ => ?_) (fun _ => ?_) <;> try (exfalso; omega))
    | (refine a64 (by omega) ?_)
    | (refine ix_at rfl (by omega) ?_)
    | (refine ⟨⟨rfl, by omega, by omega⟩, ?_⟩)
    | (refine map_at (by omega) ?_)
    | (refine alen ?_)
    | (refine amin ?_)
    | (refine amax ?_)
    | (refine ⟨⟨rfl, rfl, by simp [V.ments, mentsL]⟩, ?_⟩)
    | (refine map_at0 (by omega) ?_)
    | (refine set_at rfl ?_)
    | (refine map_atI (by omega) ?_)
    | (refine map_atI0 (by omega) ?_)
    | (refine set_atI rfl ?_)
    | (refine ⟨⟨by decide, rfl, by omega, by omega, by omega, by dsimp only; omega⟩, ?_⟩)
    | (refine arem (by omega) ?_)
    | (refine aquo (by omega) (by omega) ?_)
    | (refine au8 ?_)
    | (refine au64 (by omega) ?_)
    | (refine anat ?_)
    | (refine szOk rfl ?_)
    | (refine dvOk rfl (by omega) ?_)
    | (refine nzOk (by decide) ?_)
    | (refine lgOk (by kernel_rfl) ?_)
    | (refine kpOk (by kernel_rfl) ?_)
    | fail)
  all_goals conv => whnf
  refine cwF_loop (fun m st => ∃ (i : Nat) (o : List It), (m = l.length - i ∧ i ≤ l.length ∧ o = l.take i) ∧
    st = ⟨[.un, .un, .un, .ls (8, 1) 10 0 o.length, .un, .un, .un, .is 10 (l.map encIt), iv l.length, iv i] ++ List.replicate 16 .un, mkOb [((8, 1), some (rowIt o))]⟩) l.length (by kernel_rfl) ⟨0, [], ⟨rfl, by omega, rfl⟩, rfl⟩ ?_
  rintro m st ⟨i, o, ⟨rfl, hi, ho⟩, rfl⟩
  have hol : o.length ≤ 1000 := by rw [ho, List.length_take]; omega
  have hgv : (l.getD i default).p.v.length ≤ 100000 := by
    by_cases h : i < l.length
    · rw [List.getD_eq_getElem?_getD, List.getElem?_eq_getElem h]; exact hv _ (List.getElem_mem h)
    · rw [List.getD_eq_getElem?_getD, List.getElem?_eq_none (by omega)]; exact Nat.zero_le _
  repeat' ((conv => whnf); first
    | (refine copyPnI.ac (l.getD i default).p hgv ?_)
    | (refine app1 (f := encIt) (x := l.getD i default) ⟨by decide, rfl, rfl, by simp, ⟨by simp; omega, by simp; omega⟩, rfl, by simp [mentsOne]⟩ rfl ?_)
    | (refine bF_dec (fun _ => ?_) (fun _ => ?_) <;> try (exfalso; omega))
    | (refine bF_eq (fun _ => ?_) (fun _ => ?_) <;> try (exfalso; omega))
    | (refine bF_ne (fun _ => ?_) (fun _ => ?_) <;> try (exfalso; omega))
    | (refine a64 (by omega) ?_)
    | (refine ix_at rfl (by omega) ?_)
    | (refine ⟨⟨rfl, by omega, by omega⟩, ?_⟩)
    | (refine map_at (by omega) ?_)
    | (refine alen ?_)
    | (refine amin ?_)
    | (refine amax ?_)
    | (refine ⟨⟨rfl, rfl, by simp [V.ments, mentsL]⟩, ?_⟩)
    | (refine map_at0 (by omega) ?_)
    | (refine set_at rfl ?_)
    | (refine map_atI (by omega) ?_)
    | (refine map_atI0 (by omega) ?_)
    | (refine set_atI rfl ?_)
    | (refine ⟨⟨by decide, rfl, by omega, by omega, by omega, by dsimp only; omega⟩, ?_⟩)
    | (refine arem (by omega) ?_)
    | (refine aquo (by omega) (by omega) ?_)
    | (refine au8 ?_)
    | (refine au64 (by omega) ?_)
    | (refine anat ?_)
    | (refine szOk rfl ?_)
    | (refine dvOk rfl (by omega) ?_)
    | (refine nzOk (by decide) ?_)
    | (refine lgOk (by kernel_rfl) ?_)
    | (refine kpOk (by kernel_rfl) ?_)
    | fail)
  all_goals conv => whnf
  · exact ⟨l.length - (i + 1), by omega, i + 1, _, ⟨rfl, by omega, by rw [ho, take_succD (by omega)]⟩, rfl⟩
  · have : o = l := by rw [ho, List.take_of_length_le (by omega)]
    subst this
    exact hK
theorem itemsFrom.ac (b : Bx) (f : Int) (hb : BxF b) {K : V → List Obj → List Obj → Prop} (hK : K (.is 10 ((pollB b.its f).map encIt)) [] []) : AC Try.prog 70 [encBx b, iv f] [] K := by
  refine AC.frz ?_
  have hl := hb.2.1
  have key : ∀ o, o = pollB b.its f → ∃ v' news' n es, [rowIt o] = news' ++ [.arr true n es] ∧ LendR (1, news'.length) n es (.ls (1, 0) 10 0 o.length) v' ∧ (∀ x ∈ ([] : List Obj) ++ news', (1, news'.length) ∉ x.ments) ∧ K v' [] news' := by
    rintro _ rfl
    exact frz1 (by simp) hK
  refine ac_body (annM [(146, [0])] [(3, [1, 5, 10, 11, 12], [(10, 1)])] [(3, [((10, 1), [10, 25])])]) [((997, 0), true), ((4, 0), true), ((10, 0), false), ((10, 1), false), ((9, 0), true), ((24, 0), true), ((25, 0), false), ((28, 0), false)] hm htt Try.func70 rfl (by kernel_rfl) rfl rfl ?_
  repeat' ((conv => whnf); first
    | (refine bF_dec (fun _ => ?_) (fun _ => ?_) <;> try (exfalso; omega))
    | (refine bF_eq (fun _ => ?_) (fun _ => ?_) <;> try (exfalso; omega))
    | (refine bF_ne (fun _ => ?_) (fun _ => ?_) <;> try (exfalso; omega))
    | (refine a64 (by omega) ?_)
    | (refine ix_at rfl (by omega) ?_)
    | (refine ⟨⟨rfl, by omega, by omega⟩, ?_⟩)
    | (refine map_at (by omega) ?_)
    | (refine alen ?_)
    | (refine amin ?_)
    | (refine amax ?_)
    | (refine ⟨⟨rfl, rfl, by simp [V.ments, mentsL]⟩, ?_⟩)
    | (refine map_at0 (by omega) ?_)
    | (refine set_at rfl ?_)
    | (refine map_atI (by omega) ?_)
    | (refine map_atI0 (by omega) ?_)
    | (refine set_atI rfl ?_)
    | (refine ⟨⟨by decide, rfl, by omega, by omega, by omega, by dsimp only; omega⟩, ?_⟩)
    | (refine arem (by omega) ?_)
    | (refine aquo (by omega) (by omega) ?_)
    | (refine au8 ?_)
    | (refine au64 (by omega) ?_)
    | (refine anat ?_)
    | (refine szOk rfl ?_)
    | (refine dvOk rfl (by omega) ?_)
    | (refine nzOk (by decide) ?_)
    | (refine lgOk (by kernel_rfl) ?_)
    | (refine kpOk (by kernel_rfl) ?_)
    | fail)
  all_goals conv => whnf
  refine cwF_loop (fun m st => ∃ (i : Nat) (o : List It), (m = b.its.length - i ∧ i ≤ b.its.length ∧ o = pollB (b.its.take i) f) ∧
    st = ⟨[.un, iv f, .un, .un, .un, .ls (10, 1) 10 0 o.length, .un, .un, .un, .un, .is 10 (b.its.map encIt), iv b.its.length, iv i] ++ List.replicate 14 .un, mkOb [((10, 1), some (rowIt o))]⟩) b.its.length (by kernel_rfl) ⟨0, [], ⟨rfl, by omega, rfl⟩, rfl⟩ ?_
  rintro m st ⟨i, o, ⟨rfl, hi, ho⟩, rfl⟩
  have hol : o.length ≤ b.its.length := by rw [ho]; exact Nat.le_trans (poll_len _ _) (by rw [List.length_take]; omega)
  have hov : ∀ t ∈ o, t.p.v.length ≤ 100000 := fun t ht => hb.2.2.2 t (List.mem_of_mem_take (List.mem_filter.1 (ho ▸ ht)).1)
  repeat' ((conv => whnf); first
    | (refine app1 (f := encIt) (x := b.its.getD i default) ⟨by decide, rfl, rfl, by simp, ⟨by simp; omega, by simp; omega⟩, rfl, by simp [mentsOne]⟩ rfl ?_)
    | (refine all_at (f := encIt) (l := o) ⟨rfl, by simp⟩ ?_)
    | (refine itemsI.new o (by omega) hov ?_)
    | (refine bF_dec (fun _ => ?_) (fun _ => ?_) <;> try (exfalso; omega))
    | (refine bF_eq (fun _ => ?_) (fun _ => ?_) <;> try (exfalso; omega))
    | (refine bF_ne (fun _ => ?_) (fun _ => ?_) <;> try (exfalso; omega))
    | (refine a64 (by omega) ?_)
    | (refine ix_at rfl (by omega) ?_)
    | (refine ⟨⟨rfl, by omega, by omega⟩, ?_⟩)
    | (refine map_at (by omega) ?_)
    | (refine alen ?_)
    | (refine amin ?_)
    | (refine amax ?_)
    | (refine ⟨⟨rfl, rfl, by simp [V.ments, mentsL]⟩, ?_⟩)
    | (refine map_at0 (by omega) ?_)
    | (refine set_at rfl ?_)
    | (refine map_atI (by omega) ?_)
    | (refine map_atI0 (by omega) ?_)
    | (refine set_atI rfl ?_)
    | (refine ⟨⟨by decide, rfl, by omega, by omega, by omega, by dsimp only; omega⟩, ?_⟩)
    | (refine arem (by omega) ?_)
    | (refine aquo (by omega) (by omega) ?_)
    | (refine au8 ?_)
    | (refine au64 (by omega) ?_)
    | (refine anat ?_)
    | (refine szOk rfl ?_)
    | (refine dvOk rfl (by omega) ?_)
    | (refine nzOk (by decide) ?_)
    | (refine lgOk (by kernel_rfl) ?_)
    | (refine kpOk (by kernel_rfl) ?_)
    | fail)
  all_goals conv => whnf
  · exact ⟨b.its.length - (i + 1), by omega, i + 1, _, ⟨rfl, by omega, by rw [poll_snoc (by omega), ← ho, if_pos (by omega)]⟩, rfl⟩
  · exact ⟨b.its.length - (i + 1), by omega, i + 1, _, ⟨rfl, by omega, by rw [poll_snoc (by omega), ← ho, if_neg (by omega), List.append_nil]⟩, rfl⟩
  · exact key o (by rw [ho, List.take_of_length_le (by omega)])
/-- What a poll returns. -/
def pollR (b : Bx) (f : Int) (P : List It) : Prop := (BxOk b → P = pollB b.its f) ∧ (¬ BxOk b → P = [])
theorem BoxPollI.ac (b : Bx) (f : Int) (hb : BxF b) {K : V → List Obj → List Obj → Prop} (hK : ∀ P, pollR b f P → K (.is 10 (P.map encIt)) [] []) : AC Try.prog 20 [encBx b, iv f] [] K := by
  refine AC.weak ?_
  refine ac_body (ann []) [((997, 0), true), ((4, 0), true)] hm htt Try.func20 rfl (by kernel_rfl) rfl rfl ?_
  repeat' ((conv => whnf); first
    | (refine isBox2 b hb (fun _ => ?_) (fun _ => ?_))
    | (refine itemsFrom.ac b f hb ?_)
    | (refine bF_dec (fun _ => ?_) (fun _ => ?_) <;> try (exfalso; omega))
    | (refine bF_eq (fun _ => ?_) (fun _ => ?_) <;> try (exfalso; omega))
    | (refine bF_ne (fun _ => ?_) (fun _ => ?_) <;> try (exfalso; omega))
    | (refine a64 (by omega) ?_)
    | (refine ix_at rfl (by omega) ?_)
    | (refine ⟨⟨rfl, by omega, by omega⟩, ?_⟩)
    | (refine map_at (by omega) ?_)
    | (refine alen ?_)
    | (refine amin ?_)
    | (refine amax ?_)
    | (refine ⟨⟨rfl, rfl, by simp [V.ments, mentsL]⟩, ?_⟩)
    | (refine map_at0 (by omega) ?_)
    | (refine set_at rfl ?_)
    | (refine map_atI (by omega) ?_)
    | (refine map_atI0 (by omega) ?_)
    | (refine set_atI rfl ?_)
    | (refine ⟨⟨by decide, rfl, by omega, by omega, by omega, by dsimp only; omega⟩, ?_⟩)
    | (refine arem (by omega) ?_)
    | (refine aquo (by omega) (by omega) ?_)
    | (refine au8 ?_)
    | (refine au64 (by omega) ?_)
    | (refine anat ?_)
    | (refine szOk rfl ?_)
    | (refine dvOk rfl (by omega) ?_)
    | (refine nzOk (by decide) ?_)
    | (refine lgOk (by kernel_rfl) ?_)
    | (refine kpOk (by kernel_rfl) ?_)
    | fail)
  all_goals conv => whnf
  · exact ⟨_, Wk.refl, hK _ ⟨fun _ => rfl, fun h => absurd (by assumption) h⟩⟩
  · exact ⟨_, Wk.nil, hK [] ⟨fun h => absurd h (by assumption), fun _ => rfl⟩⟩
end Go.Eng.T
