import Derived.Test.YtpfmaiiolifblaaXSrB
import Derived.Test.YtpfmaiiolifblaaXBxP4
namespace Go.Eng.T
open Go.Proofs Go.Eng
set_option maxRecDepth 100000
set_option maxHeartbeats 0

theorem DrawPanes.ac (D : List Int) (hd : Bytes D) (hl : D.length ≤ 1048576) {K : V → List Obj → List Obj → Prop} (hK : ∀ l : List Pn, l.length ≤ 9 → (∀ p ∈ l, PnI p) → K (.is 8 (l.map encPn)) [] []) : AC Try.prog 46 [.is 1 (D.map encB)] [] K := by
  refine AC.frz ?_
  refine ac_body (annM [] [(4, [3, 4, 5], [(9, 0), (10, 1)])] [(4, [((10, 1), [10, 21])])]) [((997, 0), true), ((9, 0), true), ((10, 0), false), ((10, 1), false), ((20, 0), true), ((21, 0), false)] hm htt Try.func46 rfl (by kernel_rfl) rfl rfl ?_
  repeat' ((conv => whnf); first
    | (refine l01Open.ac D hd hl fun s hc => ?_)
    | (refine size.ac D _ _ _ _ ‹_› (by omega) (by omega) fun r p' s' hc' _ _ => ?_)
    | (refine cpick.ac D _ _ _ _ ‹_› (by omega) fun r p' s' hc' _ _ => ?_)
    | (refine once.ac D _ _ _ _ ‹_› (by omega) (by omega) fun b p' s' hc' => ?_; cases b)
    | (refine raw.ac D _ _ _ ‹_› (by omega) fun r p' s' hc' _ _ => ?_)
    | (refine pickI2 rfl (by omega) fun x _ => ?_)
    | (refine pickI3 rfl (by omega) fun x _ => ?_)
    | (refine pickI4 rfl (by omega) fun x _ => ?_)
    | (refine pickI5 rfl (by omega) fun x _ => ?_)
    | (refine bF_dec (fun _ => ?_) (fun _ => ?_) <;> try (exfalso; omega))
    | (refine bF_eq (fun _ => ?_) (fun _ => ?_) <;> try (exfalso; omega))
    | (refine bF_ne (fun _ => ?_) (fun _ => ?_) <;> try (exfalso; omega))
    | (refine a64 (by omega) ?_)
    | (refine ix_at rfl (by omega) ?_)
    | (refine ⟨⟨rfl, by omega, by omega⟩, ?_⟩)
    | (refine map_at (by omega) ?_)
    | (refine alen ?_)
    | (refine amin ?_)
    | (refine amax ?_)
    | (refine ⟨⟨rfl, rfl, by simp [V.ments, mentsL]⟩, ?_⟩)
    | (refine map_at0 (by omega) ?_)
    | (refine set_at rfl ?_)
    | (refine map_atI (by omega) ?_)
    | (refine map_atI0 (by omega) ?_)
    | (refine set_atI rfl ?_)
    | (refine ⟨⟨by decide, rfl, by omega, by omega, by omega, by dsimp only; omega⟩, ?_⟩)
    | (refine arem (by omega) ?_)
    | (refine aquo (by omega) (by omega) ?_)
    | (refine au8 ?_)
    | (refine au64 (by omega) ?_)
    | (refine anat ?_)
    | (refine szOk rfl ?_)
    | (refine dvOk rfl (by omega) ?_)
    | (refine nzOk (by decide) ?_)
    | (refine lgOk (by kernel_rfl) ?_)
    | (refine kpOk (by kernel_rfl) ?_)
    | fail)
  all_goals conv => whnf
  refine cwF_loop (fun m st => ∃ (z p s : Int) (l : List Pn), (m = z.toNat ∧ 0 ≤ z ∧ (l.length : Int) + z ≤ 9 ∧ CurI D (1 + 300 * l.length) p s ∧ ∀ p ∈ l, PnI p) ∧
    st = ⟨[.un, .un, .un, .lp (9, 0) 3 0 0, .ls (10, 1) 8 0 l.length, iv z] ++ List.replicate 15 .un, mkOb [((9, 0), some (cur D p s)), ((10, 1), some (rowP l))]⟩) r.toNat (by kernel_rfl) ⟨r, _, _, [], ⟨rfl, by omega, by simp; omega, hc'.up (by simp), fun _ h => nomatch h⟩, rfl⟩ ?_
  rintro m st ⟨z, p, s, l, ⟨rfl, z0, z1, hcz, hl'⟩, rfl⟩
  have snoc : ∀ {y : Pn}, PnI y → ∀ p ∈ l ++ [y], PnI p := fun hy p hp => by
    rcases List.mem_append.1 hp with hp | hp
    · exact hl' p hp
    · rw [List.mem_singleton.1 hp]; exact hy
  repeat' ((conv => whnf); first
    | (refine pane.ac D _ _ _ ‹_› (by omega) fun y p' s' hc' hy => ?_)
    | (refine app1 (f := encPn) (x := y) ⟨by decide, rfl, rfl, by simp, ⟨by simp; omega, by simp; omega⟩, rfl, by simp [mentsOne]⟩ rfl ?_)
    | (refine cpick.ac D _ _ _ _ ‹_› (by omega) fun r p' s' hc' _ _ => ?_)
    | (refine once.ac D _ _ _ _ ‹_› (by omega) (by omega) fun b p' s' hc' => ?_; cases b)
    | (refine raw.ac D _ _ _ ‹_› (by omega) fun r p' s' hc' _ _ => ?_)
    | (refine pickI2 rfl (by omega) fun x _ => ?_)
    | (refine pickI3 rfl (by omega) fun x _ => ?_)
    | (refine pickI4 rfl (by omega) fun x _ => ?_)
    | (refine pickI5 rfl (by omega) fun x _ => ?_)
    | (refine bF_dec (fun _ => ?_) (fun _ => ?_) <;> try (exfalso; omega))
    | (refine bF_eq (fun _ => ?_) (fun _ => ?_) <;> try (exfalso; omega))
    | (refine bF_ne (fun _ => ?_) (fun _ => ?_) <;> try (exfalso; omega))
    | (refine a64 (by omega) ?_)
    | (refine ix_at rfl (by omega) ?_)
    | (refine ⟨⟨rfl, by omega, by omega⟩, ?_⟩)
    | (refine map_at (by omega) ?_)
    | (refine alen ?_)
    | (refine amin ?_)
    | (refine amax ?_)
    | (refine ⟨⟨rfl, rfl, by simp [V.ments, mentsL]⟩, ?_⟩)
    | (refine map_at0 (by omega) ?_)
    | (refine set_at rfl ?_)
    | (refine map_atI (by omega) ?_)
    | (refine map_atI0 (by omega) ?_)
    | (refine set_atI rfl ?_)
    | (refine ⟨⟨by decide, rfl, by omega, by omega, by omega, by dsimp only; omega⟩, ?_⟩)
    | (refine arem (by omega) ?_)
    | (refine aquo (by omega) (by omega) ?_)
    | (refine au8 ?_)
    | (refine au64 (by omega) ?_)
    | (refine anat ?_)
    | (refine szOk rfl ?_)
    | (refine dvOk rfl (by omega) ?_)
    | (refine nzOk (by decide) ?_)
    | (refine lgOk (by kernel_rfl) ?_)
    | (refine kpOk (by kernel_rfl) ?_)
    | fail)
  all_goals conv => whnf
  · exact ⟨(z - 1).toNat, by omega, _, _, _, _, ⟨rfl, by omega, by simp; omega, hc'.up (by simp; omega), snoc hy⟩, rfl⟩
  · exact frz1 (by simp) (hK l (by omega) hl')
theorem samePanesT (l : List Pn) (hl : l.length ≤ 100000) (hv : ∀ p ∈ l, p.v.length ≤ 100000) {K : V → List Obj → List Obj → Prop} (hK : K (bv true) [] []) : AC Try.prog 48 [.is 8 (l.map encPn), .is 8 (l.map encPn)] [] K := by
  refine ac_body (ann [(4, [0, 1, 5], [])]) [((997, 0), true)] hm htt Try.func48 rfl (by kernel_rfl) rfl rfl ?_
  repeat' ((conv => whnf); first
    | (refine bF_dec (fun _ => ?_) (fun _ => ?_) <;> try (exfalso; omega))
    | (refine bF_eq (fun _ => ?_) (fun _ => ?_) <;> try (exfalso; omega))
    | (refine bF_ne (fun _ => ?_) (fun _ => ?_) <;> try (exfalso; omega))
    | (refine a64 (by omega) ?_)
    | (refine ix_at rfl (by omega) ?_)
    | (refine ⟨⟨rfl, by omega, by omega⟩, ?_⟩)
    | (refine map_at (by omega) ?_)
    | (refine alen ?_)
    | (refine amin ?_)
    | (refine amax ?_)
    | (refine ⟨⟨rfl, rfl, by simp [V.ments, mentsL]⟩, ?_⟩)
    | (refine map_at0 (by omega) ?_)
    | (refine set_at rfl ?_)
    | (refine map_atI (by omega) ?_)
    | (refine map_atI0 (by omega) ?_)
    | (refine set_atI rfl ?_)
    | (refine ⟨⟨by decide, rfl, by omega, by omega, by omega, by dsimp only; omega⟩, ?_⟩)
    | (refine arem (by omega) ?_)
    | (refine aquo (by omega) (by omega) ?_)
    | (refine au8 ?_)
    | (refine au64 (by omega) ?_)
    | (refine anat ?_)
    | (refine szOk rfl ?_)
    | (refine dvOk rfl (by omega) ?_)
    | (refine nzOk (by decide) ?_)
    | (refine lgOk (by kernel_rfl) ?_)
    | (refine kpOk (by kernel_rfl) ?_)
    | fail)
  all_goals conv => whnf
  refine cwF_loop (fun m st => ∃ (i : Nat), (m = l.length - i ∧ i ≤ l.length) ∧
    st = ⟨[.is 8 (l.map encPn), .is 8 (l.map encPn), .un, .un, .un, iv i] ++ List.replicate 21 .un, mkOb []⟩) l.length (by kernel_rfl) ⟨0, ⟨rfl, by omega⟩, rfl⟩ ?_
  rintro m st ⟨i, ⟨rfl, hi⟩, rfl⟩
  have hgv : (l.getD i default).v.length ≤ 100000 := by
    by_cases h : i < l.length
    · rw [List.getD_eq_getElem?_getD, List.getElem?_eq_getElem h]; exact hv _ (List.getElem_mem h)
    · rw [List.getD_eq_getElem?_getD, List.getElem?_eq_none (by omega)]; exact Nat.zero_le _
  repeat' ((conv => whnf); first
    | (refine samePaneT (l.getD i default) hgv ?_)
    | (refine bF_dec (fun _ => ?_) (fun _ => ?_) <;> try (exfalso; omega))
    | (refine bF_eq (fun _ => ?_) (fun _ => ?_) <;> try (exfalso; omega))
    | (refine bF_ne (fun _ => ?_) (fun _ => ?_) <;> try (exfalso; omega))
    | (refine a64 (by omega) ?_)
    | (refine ix_at rfl (by omega) ?_)
    | (refine ⟨⟨rfl, by omega, by omega⟩, ?_⟩)
    | (refine map_at (by omega) ?_)
    | (refine alen ?_)
    | (refine amin ?_)
    | (refine amax ?_)
    | (refine ⟨⟨rfl, rfl, by simp [V.ments, mentsL]⟩, ?_⟩)
    | (refine map_at0 (by omega) ?_)
    | (refine set_at rfl ?_)
    | (refine map_atI (by omega) ?_)
    | (refine map_atI0 (by omega) ?_)
    | (refine set_atI rfl ?_)
    | (refine ⟨⟨by decide, rfl, by omega, by omega, by omega, by dsimp only; omega⟩, ?_⟩)
    | (refine arem (by omega) ?_)
    | (refine aquo (by omega) (by omega) ?_)
    | (refine au8 ?_)
    | (refine au64 (by omega) ?_)
    | (refine anat ?_)
    | (refine szOk rfl ?_)
    | (refine dvOk rfl (by omega) ?_)
    | (refine nzOk (by decide) ?_)
    | (refine lgOk (by kernel_rfl) ?_)
    | (refine kpOk (by kernel_rfl) ?_)
    | fail)
  all_goals conv => whnf
  all_goals first
    | exact ⟨l.length - (i + 1), by omega, i + 1, ⟨rfl, by omega⟩, rfl⟩
    | exact hK
    | exact absurd rfl (by assumption)
theorem sortI.again (l : List Pn) (hl : l.length ≤ 19) (hv : ∀ p ∈ pnSort l, p.v.length ≤ 100000) {K : V → List Obj → List Obj → Prop} (hK : K (.is 8 ((pnSort l).map encPn)) [] []) : AC Try.prog 47 [.is 8 ((pnSort l).map encPn)] [] K :=
  sortI.ac (pnSort l) (by rw [pnSort_length]; exact hl) hv (by rw [pnSort_id (pnSort_srt l)]; exact hK)
theorem FnPanesSort.ac (D : List Int) (hd : Bytes D) {K : V → List Obj → List Obj → Prop} (hK : K (bv true) [] []) : AC Try.prog 9 [.is 1 (D.map encB)] [] K := by
  refine ac_body (ann [(8, [4, 5], [])]) [((997, 0), true)] hm htt Try.func9 rfl (by kernel_rfl) rfl rfl ?_
  conv => whnf
  refine big2 D (fun _ => ?_) (fun hbig => ?_)
  · conv => whnf
    exact hK
  conv => whnf
  refine DrawPanes.ac D hd (by omega) fun l hl hI => ?_
  have hv : ∀ p ∈ l, p.v.length ≤ 100000 := fun p hp => Nat.le_trans (hI p hp).len (by decide)
  have hv2 : ∀ p ∈ pnSort l, p.v.length ≤ 100000 := sort_all (fun p => p.v.length ≤ 100000) l [] (fun _ h => nomatch h) hv
  have hsl : (pnSort l).length = l.length := pnSort_length l
  have hsm : ((pnSort l).map encPn).length = l.length := by rw [List.length_map, hsl]
  have hsrt := pnSort_srt l
  repeat' ((conv => whnf); first
    | (refine sortI.ac l (by omega) hv ?_)
    | (refine sortS.ac l (by omega) hv ?_)
    | (refine samePanesT (pnSort l) (by omega) hv2 ?_)
    | (refine bF_dec (fun _ => ?_) (fun _ => ?_) <;> try (exfalso; omega))
    | (refine bF_eq (fun _ => ?_) (fun _ => ?_) <;> try (exfalso; omega))
    | (refine bF_ne (fun _ => ?_) (fun _ => ?_) <;> try (exfalso; omega))
    | (refine a64 (by omega) ?_)
    | (refine ix_at rfl (by omega) ?_)
    | (refine ⟨⟨rfl, by omega, by omega⟩, ?_⟩)
    | (refine map_at (by omega) ?_)
    | (refine alen ?_)
    | (refine amin ?_)
    | (refine amax ?_)
    | (refine ⟨⟨rfl, rfl, by simp [V.ments, mentsL]⟩, ?_⟩)
    | (refine map_at0 (by omega) ?_)
    | (refine set_at rfl ?_)
    | (refine map_atI (by omega) ?_)
    | (refine map_atI0 (by omega) ?_)
    | (refine set_atI rfl ?_)
    | (refine ⟨⟨by decide, rfl, by omega, by omega, by omega, by dsimp only; omega⟩, ?_⟩)
    | (refine arem (by omega) ?_)
    | (refine aquo (by omega) (by omega) ?_)
    | (refine au8 ?_)
    | (refine au64 (by omega) ?_)
    | (refine anat ?_)
    | (refine szOk rfl ?_)
    | (refine dvOk rfl (by omega) ?_)
    | (refine nzOk (by decide) ?_)
    | (refine lgOk (by kernel_rfl) ?_)
    | (refine kpOk (by kernel_rfl) ?_)
    | fail)
  all_goals conv => whnf
  refine cwF_loop (fun m st => ∃ (i : Nat), (m = l.length + 1 - i ∧ 1 ≤ i ∧ (i ≤ l.length ∨ i = 1)) ∧
    st = ⟨[.un, .un, .un, .un, .is 8 ((pnSort l).map encPn), iv i] ++ List.replicate 38 .un, mkOb []⟩) l.length (by kernel_rfl) ⟨1, ⟨by omega, by omega, by omega⟩, rfl⟩ ?_
  rintro m st ⟨i, ⟨rfl, i1, hi⟩, rfl⟩
  have e1 : (((i : Nat) : Int) - 1).toNat = i - 1 := by omega
  have hlt : i < (pnSort l).length → pnLt ((pnSort l).getD i default) ((pnSort l).getD (((i : Nat) : Int) - 1).toNat default) = false := fun h => by
    rw [e1]
    have := hsrt (i - 1) (by omega)
    rwa [show i - 1 + 1 = i by omega] at this
  repeat' ((conv => whnf); first
    | (refine lessI2 ((pnSort l).getD i default) ((pnSort l).getD (((i : Nat) : Int) - 1).toNat default) (fun h => ?_) (fun _ => ?_))
    | (refine sortI.again l (by omega) hv2 ?_)
    | (refine samePanesT (pnSort l) (by omega) hv2 ?_)
    | (refine bF_dec (fun _ => ?_) (fun _ => ?_) <;> try (exfalso; omega))
    | (refine bF_eq (fun _ => ?_) (fun _ => ?_) <;> try (exfalso; omega))
    | (refine bF_ne (fun _ => ?_) (fun _ => ?_) <;> try (exfalso; omega))
    | (refine a64 (by omega) ?_)
    | (refine ix_at rfl (by omega) ?_)
    | (refine ⟨⟨rfl, by omega, by omega⟩, ?_⟩)
    | (refine map_at (by omega) ?_)
    | (refine alen ?_)
    | (refine amin ?_)
    | (refine amax ?_)
    | (refine ⟨⟨rfl, rfl, by simp [V.ments, mentsL]⟩, ?_⟩)
    | (refine map_at0 (by omega) ?_)
    | (refine set_at rfl ?_)
    | (refine map_atI (by omega) ?_)
    | (refine map_atI0 (by omega) ?_)
    | (refine set_atI rfl ?_)
    | (refine ⟨⟨by decide, rfl, by omega, by omega, by omega, by dsimp only; omega⟩, ?_⟩)
    | (refine arem (by omega) ?_)
    | (refine aquo (by omega) (by omega) ?_)
    | (refine au8 ?_)
    | (refine au64 (by omega) ?_)
    | (refine anat ?_)
    | (refine szOk rfl ?_)
    | (refine dvOk rfl (by omega) ?_)
    | (refine nzOk (by decide) ?_)
    | (refine lgOk (by kernel_rfl) ?_)
    | (refine kpOk (by kernel_rfl) ?_)
    | fail)
  all_goals conv => whnf
  · rw [hlt (by omega)] at h
    cases h
  · exact ⟨l.length + 1 - (i + 1), by omega, i + 1, ⟨rfl, by omega, by omega⟩, rfl⟩
  · exact hK
end Go.Eng.T
