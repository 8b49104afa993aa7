import Derived.Test.YtpfmaiiolifblaaXBxS2
namespace Go.Eng.T
open Go.Proofs Go.Eng
set_option maxRecDepth 100000
set_option maxHeartbeats 0

theorem isCap2 (n : Int) : Two 60 [iv n] (1 ≤ n ∧ n ≤ 50) := fun hT hF => by
  refine ac_body (ann []) [((997, 0), true)] hm htt Try.func60 rfl (by kernel_rfl) rfl rfl ?_
  repeat' ((conv => whnf); first
    | (refine in2 _ _ _ (fun _ => ?_) (fun _ => ?_))
    | (refine bF_dec (fun _ => ?_) (fun _ => ?_) <;> try (exfalso; omega))
    | (refine bF_eq (fun _ => ?_) (fun _ => ?_) <;> try (exfalso; omega))
    | (refine bF_ne (fun _ => ?_) (fun _ => ?_) <;> try (exfalso; omega))
    | (refine a64 (by omega) ?_)
    | (refine ix_at rfl (by omega) ?_)
    | (refine ⟨⟨rfl, by omega, by omega⟩, ?_⟩)
    | (refine map_at (by omega) ?_)
    | (refine alen ?_)
    | (refine amin ?_)
    | (refine amax ?_)
    | (refine ⟨⟨rfl, rfl, by simp [V.ments, mentsL]⟩, ?_⟩)
    | (refine map_at0 (by omega) ?_)
    | (refine set_at rfl ?_)
    | (refine map_atI (by omega) ?_)
    | (refine map_atI0 (by omega) ?_)
    | (refine set_atI rfl ?_)
    | (refine ⟨⟨by decide, rfl, by omega, by omega, by omega, by dsimp only; omega⟩, ?_⟩)
    | (refine arem (by omega) ?_)
    | (refine aquo (by omega) (by omega) ?_)
    | (refine au8 ?_)
    | (refine au64 (by omega) ?_)
    | (refine anat ?_)
    | (refine szOk rfl ?_)
    | (refine dvOk rfl (by omega) ?_)
    | (refine nzOk (by decide) ?_)
    | (refine lgOk (by kernel_rfl) ?_)
    | (refine kpOk (by kernel_rfl) ?_)
    | fail)
  all_goals conv => whnf
  all_goals first | exact hT (by omega) | exact hF (by omega)
theorem isRule2 (n : Int) : Two 82 [iv n] (RuleI n) := fun hT hF => by
  refine ac_body (ann []) [((997, 0), true)] hm htt Try.func82 rfl (by kernel_rfl) rfl rfl ?_
  repeat' ((conv => whnf); first
    | (refine in2 _ _ _ (fun _ => ?_) (fun _ => ?_))
    | (refine bF_dec (fun _ => ?_) (fun _ => ?_) <;> try (exfalso; omega))
    | (refine bF_eq (fun _ => ?_) (fun _ => ?_) <;> try (exfalso; omega))
    | (refine bF_ne (fun _ => ?_) (fun _ => ?_) <;> try (exfalso; omega))
    | (refine a64 (by omega) ?_)
    | (refine ix_at rfl (by omega) ?_)
    | (refine ⟨⟨rfl, by omega, by omega⟩, ?_⟩)
    | (refine map_at (by omega) ?_)
    | (refine alen ?_)
    | (refine amin ?_)
    | (refine amax ?_)
    | (refine ⟨⟨rfl, rfl, by simp [V.ments, mentsL]⟩, ?_⟩)
    | (refine map_at0 (by omega) ?_)
    | (refine set_at rfl ?_)
    | (refine map_atI (by omega) ?_)
    | (refine map_atI0 (by omega) ?_)
    | (refine set_atI rfl ?_)
    | (refine ⟨⟨by decide, rfl, by omega, by omega, by omega, by dsimp only; omega⟩, ?_⟩)
    | (refine arem (by omega) ?_)
    | (refine aquo (by omega) (by omega) ?_)
    | (refine au8 ?_)
    | (refine au64 (by omega) ?_)
    | (refine anat ?_)
    | (refine szOk rfl ?_)
    | (refine dvOk rfl (by omega) ?_)
    | (refine nzOk (by decide) ?_)
    | (refine lgOk (by kernel_rfl) ?_)
    | (refine kpOk (by kernel_rfl) ?_)
    | fail)
  all_goals conv => whnf
  all_goals first | exact hT (by unfold RuleI; omega) | exact hF (by unfold RuleI; omega)
theorem isId2 (n : Int) : Two 156 [iv n] (0 ≤ n ∧ n ≤ 3) := fun hT hF => by
  refine ac_body (ann []) [((997, 0), true)] hm htt Try.func156 rfl (by kernel_rfl) rfl rfl ?_
  repeat' ((conv => whnf); first
    | (refine in2 _ _ _ (fun _ => ?_) (fun _ => ?_))
    | (refine bF_dec (fun _ => ?_) (fun _ => ?_) <;> try (exfalso; omega))
    | (refine bF_eq (fun _ => ?_) (fun _ => ?_) <;> try (exfalso; omega))
    | (refine bF_ne (fun _ => ?_) (fun _ => ?_) <;> try (exfalso; omega))
    | (refine a64 (by omega) ?_)
    | (refine ix_at rfl (by omega) ?_)
    | (refine ⟨⟨rfl, by omega, by omega⟩, ?_⟩)
    | (refine map_at (by omega) ?_)
    | (refine alen ?_)
    | (refine amin ?_)
    | (refine amax ?_)
    | (refine ⟨⟨rfl, rfl, by simp [V.ments, mentsL]⟩, ?_⟩)
    | (refine map_at0 (by omega) ?_)
    | (refine set_at rfl ?_)
    | (refine map_atI (by omega) ?_)
    | (refine map_atI0 (by omega) ?_)
    | (refine set_atI rfl ?_)
    | (refine ⟨⟨by decide, rfl, by omega, by omega, by omega, by dsimp only; omega⟩, ?_⟩)
    | (refine arem (by omega) ?_)
    | (refine aquo (by omega) (by omega) ?_)
    | (refine au8 ?_)
    | (refine au64 (by omega) ?_)
    | (refine anat ?_)
    | (refine szOk rfl ?_)
    | (refine dvOk rfl (by omega) ?_)
    | (refine nzOk (by decide) ?_)
    | (refine lgOk (by kernel_rfl) ?_)
    | (refine kpOk (by kernel_rfl) ?_)
    | fail)
  all_goals conv => whnf
  all_goals first | exact hT (by omega) | exact hF (by omega)
theorem isKey2 (n : Int) : Two 110 [iv n] (0 ≤ n ∧ n ≤ 15) := fun hT hF => by
  refine ac_body (ann []) [((997, 0), true)] hm htt Try.func110 rfl (by kernel_rfl) rfl rfl ?_
  repeat' ((conv => whnf); first
    | (refine in2 _ _ _ (fun _ => ?_) (fun _ => ?_))
    | (refine bF_dec (fun _ => ?_) (fun _ => ?_) <;> try (exfalso; omega))
    | (refine bF_eq (fun _ => ?_) (fun _ => ?_) <;> try (exfalso; omega))
    | (refine bF_ne (fun _ => ?_) (fun _ => ?_) <;> try (exfalso; omega))
    | (refine a64 (by omega) ?_)
    | (refine ix_at rfl (by omega) ?_)
    | (refine ⟨⟨rfl, by omega, by omega⟩, ?_⟩)
    | (refine map_at (by omega) ?_)
    | (refine alen ?_)
    | (refine amin ?_)
    | (refine amax ?_)
    | (refine ⟨⟨rfl, rfl, by simp [V.ments, mentsL]⟩, ?_⟩)
    | (refine map_at0 (by omega) ?_)
    | (refine set_at rfl ?_)
    | (refine map_atI (by omega) ?_)
    | (refine map_atI0 (by omega) ?_)
    | (refine set_atI rfl ?_)
    | (refine ⟨⟨by decide, rfl, by omega, by omega, by omega, by dsimp only; omega⟩, ?_⟩)
    | (refine arem (by omega) ?_)
    | (refine aquo (by omega) (by omega) ?_)
    | (refine au8 ?_)
    | (refine au64 (by omega) ?_)
    | (refine anat ?_)
    | (refine szOk rfl ?_)
    | (refine dvOk rfl (by omega) ?_)
    | (refine nzOk (by decide) ?_)
    | (refine lgOk (by kernel_rfl) ?_)
    | (refine kpOk (by kernel_rfl) ?_)
    | fail)
  all_goals conv => whnf
  all_goals first | exact hT (by omega) | exact hF (by omega)
theorem isWin2 (f t : Int) : Two 157 [.agg [iv f, iv t]] (WinI f t) := fun hT hF => by
  refine ac_body (ann []) [((997, 0), true), ((3, 0), true)] hm htt Try.func157 rfl (by kernel_rfl) rfl rfl ?_
  repeat' ((conv => whnf); first
    | (refine bF_dec (fun _ => ?_) (fun _ => ?_) <;> try (exfalso; omega))
    | (refine bF_eq (fun _ => ?_) (fun _ => ?_) <;> try (exfalso; omega))
    | (refine bF_ne (fun _ => ?_) (fun _ => ?_) <;> try (exfalso; omega))
    | (refine a64 (by omega) ?_)
    | (refine ix_at rfl (by omega) ?_)
    | (refine ⟨⟨rfl, by omega, by omega⟩, ?_⟩)
    | (refine map_at (by omega) ?_)
    | (refine alen ?_)
    | (refine amin ?_)
    | (refine amax ?_)
    | (refine ⟨⟨rfl, rfl, by simp [V.ments, mentsL]⟩, ?_⟩)
    | (refine map_at0 (by omega) ?_)
    | (refine set_at rfl ?_)
    | (refine map_atI (by omega) ?_)
    | (refine map_atI0 (by omega) ?_)
    | (refine set_atI rfl ?_)
    | (refine ⟨⟨by decide, rfl, by omega, by omega, by omega, by dsimp only; omega⟩, ?_⟩)
    | (refine arem (by omega) ?_)
    | (refine aquo (by omega) (by omega) ?_)
    | (refine au8 ?_)
    | (refine au64 (by omega) ?_)
    | (refine anat ?_)
    | (refine szOk rfl ?_)
    | (refine dvOk rfl (by omega) ?_)
    | (refine nzOk (by decide) ?_)
    | (refine lgOk (by kernel_rfl) ?_)
    | (refine kpOk (by kernel_rfl) ?_)
    | fail)
  all_goals conv => whnf
  all_goals first | exact hT (by unfold WinI; omega) | exact hF (by unfold WinI; omega)
theorem isPane8 (q k f t l n : Int) (v : List Int) (o : Bool) : Two 81 [.agg [iv q, iv k, iv f, iv t, iv l, iv n, .is 1 (v.map iv), bv o]] (PnOk ⟨q, k, f, t, l, n, v, o⟩) := fun hT hF => by
  refine ac_body (ann []) [((997, 0), true), ((3, 0), true)] hm htt Try.func81 rfl (by kernel_rfl) rfl rfl ?_
  cases o
  all_goals
    repeat' ((conv => whnf); first
      | (refine isId2 _ (fun _ => ?_) (fun _ => ?_))
      | (refine isKey2 _ (fun _ => ?_) (fun _ => ?_))
      | (refine isWin2 _ _ (fun _ => ?_) (fun _ => ?_))
      | (refine in2 _ _ _ (fun _ => ?_) (fun _ => ?_))
      | (refine bF_dec (fun _ => ?_) (fun _ => ?_) <;> try (exfalso; omega))
      | (refine bF_eq (fun _ => ?_) (fun _ => ?_) <;> try (exfalso; omega))
      | (refine bF_ne (fun _ => ?_) (fun _ => ?_) <;> try (exfalso; omega))
      | (refine a64 (by omega) ?_)
      | (refine ix_at rfl (by omega) ?_)
      | (refine ⟨⟨rfl, by omega, by omega⟩, ?_⟩)
      | (refine map_at (by omega) ?_)
      | (refine alen ?_)
      | (refine amin ?_)
      | (refine amax ?_)
      | (refine ⟨⟨rfl, rfl, by simp [V.ments, mentsL]⟩, ?_⟩)
      | (refine map_at0 (by omega) ?_)
      | (refine set_at rfl ?_)
      | (refine map_atI (by omega) ?_)
      | (refine map_atI0 (by omega) ?_)
      | (refine set_atI rfl ?_)
      | (refine ⟨⟨by decide, rfl, by omega, by omega, by omega, by dsimp only; omega⟩, ?_⟩)
      | (refine arem (by omega) ?_)
      | (refine aquo (by omega) (by omega) ?_)
      | (refine au8 ?_)
      | (refine au64 (by omega) ?_)
      | (refine anat ?_)
      | (refine szOk rfl ?_)
      | (refine dvOk rfl (by omega) ?_)
      | (refine nzOk (by decide) ?_)
      | (refine lgOk (by kernel_rfl) ?_)
      | (refine kpOk (by kernel_rfl) ?_)
      | fail)
    all_goals conv => whnf
  all_goals first | exact hT (by simp only [PnOk, WinI, Bool.false_eq_true, iff_false, iff_true] at *; omega) | exact hF (by simp only [PnOk, WinI, Bool.false_eq_true, iff_false, iff_true] at *; omega)
theorem isPane2 (p : Pn) : Two 81 [encPn p] (PnOk p) := isPane8 p.q p.k p.f p.t p.l p.n p.v p.o
theorem isBox2 (b : Bx) (h : BxF b) : Two 61 [encBx b] (BxOk b) := fun hT hF => by
  obtain ⟨⟨i1, i2, i3, i4⟩, l1, l2, l3⟩ := h
  unfold I64 at i1 i2 i3 i4
  have hli : (b.its.map encIt).length = b.its.length := List.length_map ..
  have hlr : (b.rcs.map encRc).length = b.rcs.length := List.length_map ..
  refine ac_body (ann [(6, [1, 63, 64, 65], [(3, 0)]), (12, [1, 95, 96, 97], [(3, 0)]), (18, [1, 132, 133], [(3, 0)])]) [((997, 0), true), ((3, 0), true), ((6, 0), true), ((8, 0), true), ((10, 0), true), ((11, 0), true)] hm htt Try.func61 rfl (by kernel_rfl) rfl rfl ?_
  repeat' ((conv => whnf); first
    | (refine isCap2 _ (fun _ => ?_) (fun _ => ?_))
    | (refine in2 _ _ _ (fun _ => ?_) (fun _ => ?_))
    | (refine bF_dec (fun _ => ?_) (fun _ => ?_) <;> try (exfalso; omega))
    | (refine bF_eq (fun _ => ?_) (fun _ => ?_) <;> try (exfalso; omega))
    | (refine bF_ne (fun _ => ?_) (fun _ => ?_) <;> try (exfalso; omega))
    | (refine a64 (by omega) ?_)
    | (refine ix_at rfl (by omega) ?_)
    | (refine ⟨⟨rfl, by omega, by omega⟩, ?_⟩)
    | (refine map_at (by omega) ?_)
    | (refine alen ?_)
    | (refine amin ?_)
    | (refine amax ?_)
    | (refine ⟨⟨rfl, rfl, by simp [V.ments, mentsL]⟩, ?_⟩)
    | (refine map_at0 (by omega) ?_)
    | (refine set_at rfl ?_)
    | (refine map_atI (by omega) ?_)
    | (refine map_atI0 (by omega) ?_)
    | (refine set_atI rfl ?_)
    | (refine ⟨⟨by decide, rfl, by omega, by omega, by omega, by dsimp only; omega⟩, ?_⟩)
    | (refine arem (by omega) ?_)
    | (refine aquo (by omega) (by omega) ?_)
    | (refine au8 ?_)
    | (refine au64 (by omega) ?_)
    | (refine anat ?_)
    | (refine szOk rfl ?_)
    | (refine dvOk rfl (by omega) ?_)
    | (refine nzOk (by decide) ?_)
    | (refine lgOk (by kernel_rfl) ?_)
    | (refine kpOk (by kernel_rfl) ?_)
    | fail)
  all_goals conv => whnf
  all_goals first | (exact hF fun h => by have := h.hd; unfold BxHd at this; omega) | (exact hF fun h => by have := h.itsNx; have := h.rcsNx; omega) | skip
  have hd : BxHd b := by unfold BxHd; omega
  have hs : ∀ i, i < b.its.length → (∀ t, t = b.its.getD i default → (¬ (t.s = b.nx - b.its.length + i) ∨ ¬ RuleI t.r ∨ ¬ PnOk t.p) → ¬ BxOk b) := by
    rintro i hi t rfl hc h
    have := h.its i hi
    unfold ItAt at this
    rcases hc with hc | hc | hc
    · exact hc this.1
    · exact hc this.2.2.1
    · exact hc this.2.2.2
  refine cwF_loop (fun m st => ∃ (i : Nat), (m = b.its.length - i ∧ i ≤ b.its.length ∧ ∀ j, j < i → ItAt b.nx b.its.length j (b.its.getD j default)) ∧
    st = ⟨[.un, .lp (3, 0) 6 0 0] ++ List.replicate 61 .un ++ [.is 10 (b.its.map encIt), iv b.its.length, iv i] ++ List.replicate 104 .un, mkOb [((3, 0), some (.arr false 6 [encBx b]))]⟩) b.its.length (by kernel_rfl) ⟨0, ⟨rfl, by omega, fun j h => absurd h (by omega)⟩, rfl⟩ ?_
  rintro m st ⟨i, ⟨rfl, hi, hle⟩, rfl⟩
  repeat' ((conv => whnf); first
    | (refine isRule2 _ (fun _ => ?_) (fun _ => ?_))
    | (refine isPane2 (b.its.getD i default).p (fun _ => ?_) (fun _ => ?_))
    | (refine bF_dec (fun _ => ?_) (fun _ => ?_) <;> try (exfalso; omega))
    | (refine bF_eq (fun _ => ?_) (fun _ => ?_) <;> try (exfalso; omega))
    | (refine bF_ne (fun _ => ?_) (fun _ => ?_) <;> try (exfalso; omega))
    | (refine a64 (by omega) ?_)
    | (refine ix_at rfl (by omega) ?_)
    | (refine ⟨⟨rfl, by omega, by omega⟩, ?_⟩)
    | (refine map_at (by omega) ?_)
    | (refine alen ?_)
    | (refine amin ?_)
    | (refine amax ?_)
    | (refine ⟨⟨rfl, rfl, by simp [V.ments, mentsL]⟩, ?_⟩)
    | (refine map_at0 (by omega) ?_)
    | (refine set_at rfl ?_)
    | (refine map_atI (by omega) ?_)
    | (refine map_atI0 (by omega) ?_)
    | (refine set_atI rfl ?_)
    | (refine ⟨⟨by decide, rfl, by omega, by omega, by omega, by dsimp only; omega⟩, ?_⟩)
    | (refine arem (by omega) ?_)
    | (refine aquo (by omega) (by omega) ?_)
    | (refine au8 ?_)
    | (refine au64 (by omega) ?_)
    | (refine anat ?_)
    | (refine szOk rfl ?_)
    | (refine dvOk rfl (by omega) ?_)
    | (refine nzOk (by decide) ?_)
    | (refine lgOk (by kernel_rfl) ?_)
    | (refine kpOk (by kernel_rfl) ?_)
    | fail)
  all_goals conv => whnf
  all_goals first
    | exact hF (hs i (by omega) _ rfl (.inl (by assumption)))
    | exact hF (hs i (by omega) _ rfl (.inr (.inl (by assumption))))
    | exact hF (hs i (by omega) _ rfl (.inr (.inr (by assumption))))
    | exact ⟨b.its.length - (i + 1), by omega, i + 1, ⟨rfl, by omega, fun j hj => by
        by_cases h : j = i
        · subst h; exact ⟨by assumption, by omega, by assumption, by assumption⟩
        · exact hle j (by omega)⟩, rfl⟩
    | skip
  have hIt : ∀ j, j < b.its.length → ItAt b.nx b.its.length j (b.its.getD j default) := fun j hj => hle j (by omega)
  have hr : ∀ i, i < b.rcs.length → (∀ t, t = b.rcs.getD i default → (¬ (t.s = b.nx - b.rcs.length + i) ∨ ¬ RuleI t.r ∨ ¬ (0 ≤ t.l ∧ t.l ≤ 15)) → ¬ BxOk b) := by
    rintro i hi t rfl hc h
    have := h.rcs i hi
    unfold RcAt at this
    rcases hc with hc | hc | hc
    · exact hc this.1
    · exact hc this.2.2.1
    · omega
  refine cwF_loop (fun m st => ∃ (i : Nat), (m = b.rcs.length - i ∧ i ≤ b.rcs.length ∧ (∀ j, j < i → RcAt b.nx b.rcs.length j (b.rcs.getD j default))) ∧
    st = ⟨[.un, .lp (3, 0) 6 0 0] ++ List.replicate 93 .un ++ [.is 3 (b.rcs.map encRc), iv b.rcs.length, iv i] ++ List.replicate 72 .un, mkOb [((3, 0), some (.arr false 6 [encBx b]))]⟩) b.rcs.length (by kernel_rfl) ⟨0, ⟨rfl, by omega, fun j h => absurd h (by omega)⟩, rfl⟩ ?_
  rintro m st ⟨i, ⟨rfl, hi, hle⟩, rfl⟩
  repeat' ((conv => whnf); first
    | (refine isRule2 _ (fun _ => ?_) (fun _ => ?_))
    | (refine in2 _ _ _ (fun _ => ?_) (fun _ => ?_))
    | (refine bF_dec (fun _ => ?_) (fun _ => ?_) <;> try (exfalso; omega))
    | (refine bF_eq (fun _ => ?_) (fun _ => ?_) <;> try (exfalso; omega))
    | (refine bF_ne (fun _ => ?_) (fun _ => ?_) <;> try (exfalso; omega))
    | (refine a64 (by omega) ?_)
    | (refine ix_at rfl (by omega) ?_)
    | (refine ⟨⟨rfl, by omega, by omega⟩, ?_⟩)
    | (refine map_at (by omega) ?_)
    | (refine alen ?_)
    | (refine amin ?_)
    | (refine amax ?_)
    | (refine ⟨⟨rfl, rfl, by simp [V.ments, mentsL]⟩, ?_⟩)
    | (refine map_at0 (by omega) ?_)
    | (refine set_at rfl ?_)
    | (refine map_atI (by omega) ?_)
    | (refine map_atI0 (by omega) ?_)
    | (refine set_atI rfl ?_)
    | (refine ⟨⟨by decide, rfl, by omega, by omega, by omega, by dsimp only; omega⟩, ?_⟩)
    | (refine arem (by omega) ?_)
    | (refine aquo (by omega) (by omega) ?_)
    | (refine au8 ?_)
    | (refine au64 (by omega) ?_)
    | (refine anat ?_)
    | (refine szOk rfl ?_)
    | (refine dvOk rfl (by omega) ?_)
    | (refine nzOk (by decide) ?_)
    | (refine lgOk (by kernel_rfl) ?_)
    | (refine kpOk (by kernel_rfl) ?_)
    | fail)
  all_goals conv => whnf
  all_goals first
    | exact hF (hr i (by omega) _ rfl (.inl (by assumption)))
    | exact hF (hr i (by omega) _ rfl (.inr (.inl (by assumption))))
    | exact hF (hr i (by omega) _ rfl (.inr (.inr (by assumption))))
    | exact ⟨b.rcs.length - (i + 1), by omega, i + 1, ⟨rfl, by omega, fun j hj => by
        by_cases h : j = i
        · subst h; unfold RcAt; exact ⟨by assumption, by omega, by assumption, by omega, by omega⟩
        · exact hle j (by omega)⟩, rfl⟩
    | skip
  have hRc : ∀ j, j < b.rcs.length → RcAt b.nx b.rcs.length j (b.rcs.getD j default) := fun j hj => hle j (by omega)
  refine cwF_loop (fun m st => ∃ (i : Nat), (m = min b.its.length b.rcs.length - i ∧ i ≤ min b.its.length b.rcs.length ∧ (∀ j, j < i → (b.its.getD (b.its.length - 1 - j) default).r = (b.rcs.getD (b.rcs.length - 1 - j) default).r ∧ (b.its.getD (b.its.length - 1 - j) default).p.l = (b.rcs.getD (b.rcs.length - 1 - j) default).l)) ∧
    st = ⟨[.un, .lp (3, 0) 6 0 0] ++ List.replicate 130 .un ++ [iv (min (b.its.length : Int) b.rcs.length), iv i] ++ List.replicate 36 .un, mkOb [((3, 0), some (.arr false 6 [encBx b]))]⟩) (min b.its.length b.rcs.length) (by kernel_rfl) ⟨0, ⟨rfl, by omega, fun j h => absurd h (by omega)⟩, rfl⟩ ?_
  rintro m st ⟨i, ⟨rfl, hi, hle⟩, rfl⟩
  have e1 : ((b.its.length : Int) - 1 - (i : Int)).toNat = b.its.length - 1 - i := by omega
  have e2 : ((b.rcs.length : Int) - 1 - (i : Int)).toNat = b.rcs.length - 1 - i := by omega
  repeat' ((conv => whnf); first
    | (refine bF_dec (fun _ => ?_) (fun _ => ?_) <;> try (exfalso; omega))
    | (refine bF_eq (fun _ => ?_) (fun _ => ?_) <;> try (exfalso; omega))
    | (refine bF_ne (fun _ => ?_) (fun _ => ?_) <;> try (exfalso; omega))
    | (refine a64 (by omega) ?_)
    | (refine ix_at rfl (by omega) ?_)
    | (refine ⟨⟨rfl, by omega, by omega⟩, ?_⟩)
    | (refine map_at (by omega) ?_)
    | (refine alen ?_)
    | (refine amin ?_)
    | (refine amax ?_)
    | (refine ⟨⟨rfl, rfl, by simp [V.ments, mentsL]⟩, ?_⟩)
    | (refine map_at0 (by omega) ?_)
    | (refine set_at rfl ?_)
    | (refine map_atI (by omega) ?_)
    | (refine map_atI0 (by omega) ?_)
    | (refine set_atI rfl ?_)
    | (refine ⟨⟨by decide, rfl, by omega, by omega, by omega, by dsimp only; omega⟩, ?_⟩)
    | (refine arem (by omega) ?_)
    | (refine aquo (by omega) (by omega) ?_)
    | (refine au8 ?_)
    | (refine au64 (by omega) ?_)
    | (refine anat ?_)
    | (refine szOk rfl ?_)
    | (refine dvOk rfl (by omega) ?_)
    | (refine nzOk (by decide) ?_)
    | (refine lgOk (by kernel_rfl) ?_)
    | (refine kpOk (by kernel_rfl) ?_)
    | fail)
  all_goals conv => whnf
  · rename_i c1 c2
    rw [e1, e2] at c2
    exact hF fun h => c2 (h.ends i (by omega)).1
  · rename_i c1 c2 c3
    rw [e1, e2] at c3
    exact hF fun h => c3 (h.ends i (by omega)).2
  · rename_i c1 c2 c3
    rw [e1, e2] at c2 c3
    exact ⟨min b.its.length b.rcs.length - (i + 1), by omega, i + 1, ⟨rfl, by omega, fun j hj => by
      by_cases e : j = i
      · rw [e]; exact ⟨c2, c3⟩
      · exact hle j (by omega)⟩, rfl⟩
  · exact hT (BxOk.of hd hIt hRc fun j hj => hle j (by omega))
end Go.Eng.T
