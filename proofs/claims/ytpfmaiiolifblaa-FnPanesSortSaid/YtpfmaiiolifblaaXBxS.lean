import Derived.Test.YtpfmaiiolifblaaXPnS
namespace Go.Eng.T
open Go.Proofs Go.Eng
set_option maxRecDepth 100000
set_option maxHeartbeats 0

abbrev rowIt (l : List It) : Obj := .arr true 10 (l.map encIt)
abbrev rowRc (l : List Rc) : Obj := .arr true 3 (l.map encRc)
abbrev bxL (b : Bx) : V := .agg [iv b.cap, iv b.aud, iv b.nx, iv b.gp, .ls (1, 0) 10 0 b.its.length, .ls (1, 1) 3 0 b.rcs.length]
abbrev bx0 : V := .agg [iv 0, iv 0, iv 0, iv 0, nilS, nilS]
theorem BoxNewS.ac (a c : Int) (h : (1 ≤ a ∧ a ≤ 50) ∧ 1 ≤ c ∧ c ≤ 50) {K : V → List Obj → List Obj → Prop} (hK : K (.tup [.agg [iv a, iv c, iv 0, iv 0, .is 10 [], .is 3 []], bv true]) [] []) : AC Try.prog 215 [iv a, iv c] [] K := by
  refine AC.weak ?_
  have e : ∃ v', Wk (.tup [.agg [iv a, iv c, iv 0, iv 0, nilS, nilS], bv true]) v' ∧ K v' [] [] := ⟨_, Wk.tup (.cons (Wk.agg (.cons Wk.refl (.cons Wk.refl (.cons Wk.refl (.cons Wk.refl (.cons Wk.nil (.cons Wk.nil .nil))))))) (.cons Wk.refl .nil)), hK⟩
  refine ac_body (ann []) [((997, 0), true), ((6, 0), true)] hm htt Try.func215 rfl (by kernel_rfl) rfl rfl ?_
  repeat' ((conv => whnf); first
    | (refine l10Cap2 _ (fun _ => ?_) (fun _ => ?_))
    | (refine bF_dec (fun _ => ?_) (fun _ => ?_) <;> try (exfalso; omega))
    | (refine bF_eq (fun _ => ?_) (fun _ => ?_) <;> try (exfalso; omega))
    | (refine bF_ne (fun _ => ?_) (fun _ => ?_) <;> try (exfalso; omega))
    | (refine a64 (by omega) ?_)
    | (refine ix_at rfl (by omega) ?_)
    | (refine ⟨⟨rfl, by omega, by omega⟩, ?_⟩)
    | (refine map_at (by omega) ?_)
    | (refine alen ?_)
    | (refine amin ?_)
    | (refine amax ?_)
    | (refine ⟨⟨rfl, rfl, by simp [V.ments, mentsL]⟩, ?_⟩)
    | (refine map_at0 (by omega) ?_)
    | (refine set_at rfl ?_)
    | (refine map_atI (by omega) ?_)
    | (refine map_atI0 (by omega) ?_)
    | (refine set_atI rfl ?_)
    | (refine ⟨⟨by decide, rfl, by omega, by omega, by omega, by dsimp only; omega⟩, ?_⟩)
    | (refine arem (by omega) ?_)
    | (refine aquo (by omega) (by omega) ?_)
    | (refine au8 ?_)
    | (refine au64 (by omega) ?_)
    | (refine anat ?_)
    | (refine szOk rfl ?_)
    | (refine dvOk rfl (by omega) ?_)
    | (refine nzOk (by decide) ?_)
    | (refine lgOk (by kernel_rfl) ?_)
    | (refine kpOk (by kernel_rfl) ?_)
    | fail)
  all_goals conv => whnf
  all_goals first | exact e | (exfalso; omega)
theorem frzPn {a b c d e f g : V} {v : List Int} {objs : List Obj} {K : V → List Obj → List Obj → Prop} (hr : ∀ x ∈ [a, b, c, d, e, f, g], x.ments = []) (hm : ∀ x ∈ objs, ∀ j, (1, j) ∉ x.ments) (k : K (.agg [a, b, c, d, e, f, .is 1 (v.map iv), g]) objs []) : ∃ v' news' n es, [rowI v] = news' ++ [.arr true n es] ∧ LendR (1, news'.length) n es (.agg [a, b, c, d, e, f, .ls (1, 0) 1 0 v.length, g]) v' ∧ (∀ x ∈ objs ++ news', (1, news'.length) ∉ x.ments) ∧ K v' objs news' := by
  have h := fun x hx => hr x hx
  simp only [List.mem_cons, List.not_mem_nil, or_false, forall_eq_or_imp, forall_eq] at h
  obtain ⟨h1, h2, h3, h4, h5, h6, h7⟩ := h
  exact ⟨_, [], 1, _, rfl, .agg (.cons (.same (by simp [h1])) (.cons (.same (by simp [h2])) (.cons (.same (by simp [h3])) (.cons (.same (by simp [h4])) (.cons (.same (by simp [h5])) (.cons (.same (by simp [h6])) (.cons (.all (by simp)) (.cons (.same (by simp [h7])) .nil)))))))), fun x hx => hm x (by simpa using hx) _, k⟩
theorem copyPnS.ac (p : Pn) (hl : p.v.length ≤ 100000) {K : V → List Obj → List Obj → Prop} (hK : K (encPn p) [] []) : AC Try.prog 132 [encPn p] [] K := by
  refine AC.frz ?_
  refine ac_body (ann []) [((997, 0), true), ((3, 0), true), ((4, 0), true), ((5, 0), false), ((8, 0), false)] hm htt Try.func132 rfl (by kernel_rfl) rfl rfl ?_
  repeat' ((conv => whnf); first
    | (refine appN (f := iv) ⟨by decide, rfl, rfl, by simp, ⟨by simp; omega, by simp; omega⟩, rfl, by simp [mentsOne]⟩ ?_)
    | (refine bF_dec (fun _ => ?_) (fun _ => ?_) <;> try (exfalso; omega))
    | (refine bF_eq (fun _ => ?_) (fun _ => ?_) <;> try (exfalso; omega))
    | (refine bF_ne (fun _ => ?_) (fun _ => ?_) <;> try (exfalso; omega))
    | (refine a64 (by omega) ?_)
    | (refine ix_at rfl (by omega) ?_)
    | (refine ⟨⟨rfl, by omega, by omega⟩, ?_⟩)
    | (refine map_at (by omega) ?_)
    | (refine alen ?_)
    | (refine amin ?_)
    | (refine amax ?_)
    | (refine ⟨⟨rfl, rfl, by simp [V.ments, mentsL]⟩, ?_⟩)
    | (refine map_at0 (by omega) ?_)
    | (refine set_at rfl ?_)
    | (refine map_atI (by omega) ?_)
    | (refine map_atI0 (by omega) ?_)
    | (refine set_atI rfl ?_)
    | (refine ⟨⟨by decide, rfl, by omega, by omega, by omega, by dsimp only; omega⟩, ?_⟩)
    | (refine arem (by omega) ?_)
    | (refine aquo (by omega) (by omega) ?_)
    | (refine au8 ?_)
    | (refine au64 (by omega) ?_)
    | (refine anat ?_)
    | (refine szOk rfl ?_)
    | (refine dvOk rfl (by omega) ?_)
    | (refine nzOk (by decide) ?_)
    | (refine lgOk (by kernel_rfl) ?_)
    | (refine kpOk (by kernel_rfl) ?_)
    | fail)
  all_goals conv => whnf
  exact frzPn (by simp [V.ments]) (by simp) hK
theorem itemsS.new (l : List It) (hl : l.length ≤ 1000) (hv : ∀ t ∈ l, t.p.v.length ≤ 100000) {K : V → List Obj → List Obj → Prop} (hK : K (.ls (1, 0) 10 0 l.length) [] [rowIt l]) : AC Try.prog 75 [.is 10 (l.map encIt)] [] K := by
  refine ac_body (annW [] [(3, [0, 3, 4], [(7, 1)])] [(3, (7, 1), [7, 33])]) [((997, 0), true), ((7, 0), false), ((7, 1), false), ((32, 0), true), ((33, 0), false)] hm htt Try.func75 rfl (by kernel_rfl) rfl rfl ?_
  repeat' ((conv => whnf); first
    | (refine bF_dec (fun _ => ?_) (fun _ => ?_) <;> try (exfalso; omega))
    | (refine bF_eq (fun _ => ?_) (fun _ => ?_) <;> try (exfalso; omega))
    | (refine bF_ne (fun _ => ?_) (fun _ => ?_) <;> try (exfalso; omega))
    | (refine a64 (by omega) ?_)
    | (refine ix_at rfl (by omega) ?_)
    | (refine ⟨⟨rfl, by omega, by omega⟩, ?_⟩)
    | (refine map_at (by omega) ?_)
    | (refine alen ?_)
    | (refine amin ?_)
    | (refine amax ?_)
    | (refine ⟨⟨rfl, rfl, by simp [V.ments, mentsL]⟩, ?_⟩)
    | (refine map_at0 (by omega) ?_)
    | (refine set_at rfl ?_)
    | (refine map_atI (by omega) ?_)
    | (refine map_atI0 (by omega) ?_)
    | (refine set_atI rfl ?_)
    | (refine ⟨⟨by decide, rfl, by omega, by omega, by omega, by dsimp only; omega⟩, ?_⟩)
    | (refine arem (by omega) ?_)
    | (refine aquo (by omega) (by omega) ?_)
    | (refine au8 ?_)
    | (refine au64 (by omega) ?_)
    | (refine anat ?_)
    | (refine szOk rfl ?_)
    | (refine dvOk rfl (by omega) ?_)
    | (refine nzOk (by decide) ?_)
    | (refine lgOk (by kernel_rfl) ?_)
    | (refine kpOk (by kernel_rfl) ?_)
    | fail)
  all_goals conv => whnf
  refine cwF_loop (fun m st => ∃ (i : Nat) (o : List It), (m = l.length - i ∧ i ≤ l.length ∧ o = l.take i) ∧
    st = ⟨[.is 10 (l.map encIt), .un, .un, .ls (7, 1) 10 0 o.length, iv i] ++ List.replicate 28 .un, mkOb [((7, 1), some (rowIt o))]⟩) l.length (by kernel_rfl) ⟨0, [], ⟨rfl, by omega, rfl⟩, rfl⟩ ?_
  rintro m st ⟨i, o, ⟨rfl, hi, ho⟩, rfl⟩
  have hol : o.length ≤ 1000 := by rw [ho, List.length_take]; omega
  have hgv : (l.getD i default).p.v.length ≤ 100000 := by
    by_cases h : i < l.length
    · rw [List.getD_eq_getElem?_getD, List.getElem?_eq_getElem h]; exact hv _ (List.getElem_mem h)
    · rw [List.getD_eq_getElem?_getD, List.getElem?_eq_none (by omega)]; exact Nat.zero_le _
  repeat' ((conv => whnf); first
    | (refine copyPnS.ac (l.getD i default).p hgv ?_)
    | (refine app1 (f := encIt) (x := l.getD i default) ⟨by decide, rfl, rfl, by simp, ⟨by simp; omega, by simp; omega⟩, rfl, by simp [mentsOne]⟩ rfl ?_)
    | (refine bF_dec (fun _ => ?_) (fun _ => ?_) <;> try (exfalso; omega))
    | (refine bF_eq (fun _ => ?_) (fun _ => ?_) <;> try (exfalso; omega))
    | (refine bF_ne (fun _ => ?_) (fun _ => ?_) <;> try (exfalso; omega))
    | (refine a64 (by omega) ?_)
    | (refine ix_at rfl (by omega) ?_)
    | (refine ⟨⟨rfl, by omega, by omega⟩, ?_⟩)
    | (refine map_at (by omega) ?_)
    | (refine alen ?_)
    | (refine amin ?_)
    | (refine amax ?_)
    | (refine ⟨⟨rfl, rfl, by simp [V.ments, mentsL]⟩, ?_⟩)
    | (refine map_at0 (by omega) ?_)
    | (refine set_at rfl ?_)
    | (refine map_atI (by omega) ?_)
    | (refine map_atI0 (by omega) ?_)
    | (refine set_atI rfl ?_)
    | (refine ⟨⟨by decide, rfl, by omega, by omega, by omega, by dsimp only; omega⟩, ?_⟩)
    | (refine arem (by omega) ?_)
    | (refine aquo (by omega) (by omega) ?_)
    | (refine au8 ?_)
    | (refine au64 (by omega) ?_)
    | (refine anat ?_)
    | (refine szOk rfl ?_)
    | (refine dvOk rfl (by omega) ?_)
    | (refine nzOk (by decide) ?_)
    | (refine lgOk (by kernel_rfl) ?_)
    | (refine kpOk (by kernel_rfl) ?_)
    | fail)
  all_goals conv => whnf
  · exact ⟨l.length - (i + 1), by omega, i + 1, _, ⟨rfl, by omega, by rw [ho, take_succD (by omega)]⟩, rfl⟩
  · have : o = l := by rw [ho, List.take_of_length_le (by omega)]
    subst this
    exact hK
end Go.Eng.T
