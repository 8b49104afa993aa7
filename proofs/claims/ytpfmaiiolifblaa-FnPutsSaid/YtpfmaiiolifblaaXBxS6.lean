import Derived.Test.YtpfmaiiolifblaaXBxS5
namespace Go.Eng.T
open Go.Proofs Go.Eng
set_option maxRecDepth 100000
set_option maxHeartbeats 0

theorem frzBx {a b c d : V} {its : List It} {rcs : List Rc} {objs : List Obj} {K : V → List Obj → List Obj → Prop} (hr : ∀ x ∈ [a, b, c, d], x.ments = []) (hm : ∀ x ∈ objs, ∀ j, (1, j) ∉ x.ments)
    (k : K (.agg [a, b, c, d, .is 10 (its.map encIt), .is 3 (rcs.map encRc)]) objs []) : FrO (FrO K) (.agg [a, b, c, d, .ls (1, 0) 10 0 its.length, .ls (1, 1) 3 0 rcs.length]) objs [rowIt its, rowRc rcs] := by
  have ha : a.ments = [] := hr a (by simp)
  have hb : b.ments = [] := hr b (by simp)
  have hc : c.ments = [] := hr c (by simp)
  have hd : d.ments = [] := hr d (by simp)
  refine .inl ⟨.agg [a, b, c, d, .ls (1, 0) 10 0 its.length, .is 3 (rcs.map encRc)], [rowIt its], 3, _, rfl, .agg (.cons (.same (by simp [ha])) (.cons (.same (by simp [hb])) (.cons (.same (by simp [hc])) (.cons (.same (by simp [hd])) (.cons (.same (by simp [V.ments])) (.cons (.all (by simp)) .nil)))))), ?_, ?_⟩
  · intro x hx
    rcases List.mem_append.1 hx with hx | hx
    · exact hm x hx _
    · rw [List.mem_singleton.1 hx]
      simp [Obj.ments]
  · exact .inl ⟨_, [], 10, _, rfl, .agg (.cons (.same (by simp [ha])) (.cons (.same (by simp [hb])) (.cons (.same (by simp [hc])) (.cons (.same (by simp [hd])) (.cons (.all (by simp)) (.cons (.same (by simp [V.ments])) .nil)))))), fun x hx => hm x (by simpa using hx) _, k⟩
theorem BxI.of {a c n g : Int} {its : List It} {rcs : List Rc} (h : I64 a ∧ I64 c ∧ I64 n ∧ I64 g) (l1 : its.length ≤ 50) (l2 : rcs.length ≤ 50) (h1 : ItsI its) (h2 : RcsI rcs) : BxI ⟨a, c, n, g, its, rcs⟩ := ⟨h, l1, l2, h1, h2⟩
theorem its_set {l : List It} {i : Nat} {t : It} (h : ItsI l) (ht : I64 t.s ∧ I64 t.r ∧ PnI t.p) : ItsI (l.set i t) := fun x hx => by
  rcases List.mem_or_eq_of_mem_set hx with h1 | rfl
  · exact h x h1
  · exact ht
theorem its_get {l : List It} (h : ItsI l) (i : Nat) (hi : i < l.length) : I64 (l.getD i default).s ∧ I64 (l.getD i default).r ∧ PnI (l.getD i default).p := by
  rw [List.getD_eq_getElem?_getD, List.getElem?_eq_getElem hi]; exact h _ (List.getElem_mem hi)
theorem rcs_set {l : List Rc} {i : Nat} {t : Rc} (h : RcsI l) (ht : I64 t.s ∧ I64 t.r ∧ I64 t.l) : RcsI (l.set i t) := fun x hx => by
  rcases List.mem_or_eq_of_mem_set hx with h1 | rfl
  · exact h x h1
  · exact ht
theorem badBox.ac (D : List Int) (k p s : Int) (hc : CurI D k p s) (hk : k ≤ 200000) {K : V → List Obj → List Obj → Prop} (hK : ∀ b p' s', CurI D (k + 6000) p' s' → BxI b → K (encBx b) [cur D p' s'] []) : AC Try.prog 72 [.lp (0, 0) 3 0 0] [cur D p s] K := by
  have hK' : ∀ a c n g (its : List It) (rcs : List Rc) p' s', CurI D (k + 6000) p' s' → (I64 a ∧ I64 c ∧ I64 n ∧ I64 g) → its.length ≤ 50 → rcs.length ≤ 50 → ItsI its → RcsI rcs → K (.agg [iv a, iv c, iv n, iv g, .is 10 (its.map encIt), .is 3 (rcs.map encRc)]) [cur D p' s'] [] := fun a c n g its rcs p' s' h1 h2 h3 h4 h5 h6 => hK ⟨a, c, n, g, its, rcs⟩ p' s' h1 (BxI.of h2 h3 h4 h5 h6)
  refine AC.frzO (AC.frzO ?_)
  refine ac_body (ann []) [((997, 0), true), ((0, 0), true), ((4, 0), true), ((7, 0), false), ((7, 1), false), ((5, 0), true), ((14, 0), false), ((27, 0), false), ((37, 0), false), ((57, 0), false)] hm htt Try.func72 rfl (by kernel_rfl) rfl rfl ?_
  conv => whnf
  refine box.ac D k p s hc (by omega) (fun a c p' s' hc' ha hcc => ?_) (fun b p' s' hc' hb hI => ?_)
  · have h0 : ItsI [] := fun _ h => nomatch h
    have h1 : RcsI [] := fun _ h => nomatch h
    repeat' ((conv => whnf); first
      | (refine cpick.ac D _ _ _ _ ‹_› (by omega) fun r p' s' hc' _ _ => ?_)
      | (refine once.ac D _ _ _ _ ‹_› (by omega) (by omega) fun b p' s' hc' => ?_; cases b)
      | (refine raw.ac D _ _ _ ‹_› (by omega) fun r p' s' hc' _ _ => ?_)
      | (refine pickI2 rfl (by omega) fun x _ => ?_)
      | (refine pickI3 rfl (by omega) fun x _ => ?_)
      | (refine pickI4 rfl (by omega) fun x _ => ?_)
      | (refine pickI5 rfl (by omega) fun x _ => ?_)
      | (refine bF_dec (fun _ => ?_) (fun _ => ?_) <;> try (exfalso; omega))
      | (refine bF_eq (fun _ => ?_) (fun _ => ?_) <;> try (exfalso; omega))
      | (refine bF_ne (fun _ => ?_) (fun _ => ?_) <;> try (exfalso; omega))
      | (refine a64 (by omega) ?_)
      | (refine ix_at rfl (by omega) ?_)
      | (refine ⟨⟨rfl, by omega, by omega⟩, ?_⟩)
      | (refine map_at (by omega) ?_)
      | (refine alen ?_)
      | (refine amin ?_)
      | (refine amax ?_)
      | (refine ⟨⟨rfl, rfl, by simp [V.ments, mentsL]⟩, ?_⟩)
      | (refine map_at0 (by omega) ?_)
      | (refine set_at rfl ?_)
      | (refine map_atI (by omega) ?_)
      | (refine map_atI0 (by omega) ?_)
      | (refine set_atI rfl ?_)
      | (refine ⟨⟨by decide, rfl, by omega, by omega, by omega, by dsimp only; omega⟩, ?_⟩)
      | (refine arem (by omega) ?_)
      | (refine aquo (by omega) (by omega) ?_)
      | (refine au8 ?_)
      | (refine au64 (by omega) ?_)
      | (refine anat ?_)
      | (refine szOk rfl ?_)
      | (refine dvOk rfl (by omega) ?_)
      | (refine nzOk (by decide) ?_)
      | (refine lgOk (by kernel_rfl) ?_)
      | (refine kpOk (by kernel_rfl) ?_)
      | fail)
    all_goals conv => whnf
    all_goals first
      | exact .inr (.inr (hK' _ _ _ _ [] [] _ _ (hc'.up (by omega)) (by unfold I64; omega) (by simp) (by simp) h0 h1))
      | trace_state
  · have hh := hb.hd
    unfold BxHd at hh
    have hR := ok_rcs hb
    repeat' ((conv => whnf); first
      | (refine pane.ac D _ _ _ ‹_› (by omega) fun y p' s' hc' hy => ?_)
      | (refine set_atI (f := encIt) (L := b.its) (x := ⟨(b.its.getD (0 + r.toNat) default).s, (b.its.getD (0 + r.toNat) default).r, y⟩) rfl ?_)
      | (refine set_atI (f := encRc) (L := b.rcs) (x := ⟨_, _, _⟩) rfl ?_)
      | (refine cpick.ac D _ _ _ _ ‹_› (by omega) fun r p' s' hc' _ _ => ?_)
      | (refine once.ac D _ _ _ _ ‹_› (by omega) (by omega) fun b p' s' hc' => ?_; cases b)
      | (refine raw.ac D _ _ _ ‹_› (by omega) fun r p' s' hc' _ _ => ?_)
      | (refine pickI2 rfl (by omega) fun x _ => ?_)
      | (refine pickI3 rfl (by omega) fun x _ => ?_)
      | (refine pickI4 rfl (by omega) fun x _ => ?_)
      | (refine pickI5 rfl (by omega) fun x _ => ?_)
      | (refine bF_dec (fun _ => ?_) (fun _ => ?_) <;> try (exfalso; omega))
      | (refine bF_eq (fun _ => ?_) (fun _ => ?_) <;> try (exfalso; omega))
      | (refine bF_ne (fun _ => ?_) (fun _ => ?_) <;> try (exfalso; omega))
      | (refine a64 (by omega) ?_)
      | (refine ix_at rfl (by omega) ?_)
      | (refine ⟨⟨rfl, by omega, by omega⟩, ?_⟩)
      | (refine map_at (by omega) ?_)
      | (refine alen ?_)
      | (refine amin ?_)
      | (refine amax ?_)
      | (refine ⟨⟨rfl, rfl, by simp [V.ments, mentsL]⟩, ?_⟩)
      | (refine map_at0 (by omega) ?_)
      | (refine set_at rfl ?_)
      | (refine map_atI (by omega) ?_)
      | (refine map_atI0 (by omega) ?_)
      | (refine set_atI rfl ?_)
      | (refine ⟨⟨by decide, rfl, by omega, by omega, by omega, by dsimp only; omega⟩, ?_⟩)
      | (refine arem (by omega) ?_)
      | (refine aquo (by omega) (by omega) ?_)
      | (refine au8 ?_)
      | (refine au64 (by omega) ?_)
      | (refine anat ?_)
      | (refine szOk rfl ?_)
      | (refine dvOk rfl (by omega) ?_)
      | (refine nzOk (by decide) ?_)
      | (refine lgOk (by kernel_rfl) ?_)
      | (refine kpOk (by kernel_rfl) ?_)
      | fail)
    all_goals conv => whnf
    all_goals first
      | (have e := frzBx (its := b.its.set r.toNat ⟨(b.its.getD (0 + r.toNat) default).s, (b.its.getD (0 + r.toNat) default).r, y⟩) (rcs := b.rcs) (by simp [V.ments]) cur_ments2 (hK' b.cap b.aud b.nx b.gp (b.its.set r.toNat ⟨(b.its.getD (0 + r.toNat) default).s, (b.its.getD (0 + r.toNat) default).r, y⟩) b.rcs _ _ (hc'.up (by omega)) (by unfold I64; omega) (by rw [List.length_set]; omega) (by omega) (its_set hI ⟨(its_get hI _ (by omega)).1, (its_get hI _ (by omega)).2.1, hy⟩) hR)
         rw [List.length_set] at e
         exact e)
      | (rename_i r1 _ _ _ _ _ r2 _ _ _ _ _ _ _
         have e := frzBx (its := b.its) (rcs := b.rcs.set r1.toNat ⟨b.nx - 1, r2, r⟩) (by simp [V.ments]) cur_ments2 (hK' b.cap b.aud b.nx b.gp b.its (b.rcs.set r1.toNat ⟨b.nx - 1, r2, r⟩) _ _ (hc'.up (by omega)) (by unfold I64; omega) (by omega) (by rw [List.length_set]; omega) hI (rcs_set hR (by unfold I64; dsimp only; omega)))
         rw [List.length_set] at e
         exact e)
      | exact frzBx (by simp [V.ments]) cur_ments2 (hK' _ _ _ _ b.its b.rcs _ _ (hc'.up (by omega)) (by unfold I64; omega) (by omega) (by omega) hI hR)
end Go.Eng.T
