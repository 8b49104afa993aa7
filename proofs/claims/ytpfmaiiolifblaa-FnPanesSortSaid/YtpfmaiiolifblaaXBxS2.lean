import Derived.Test.YtpfmaiiolifblaaXBxS
namespace Go.Eng.T
open Go.Proofs Go.Eng
set_option maxRecDepth 100000
set_option maxHeartbeats 0

def BxF (b : Bx) : Prop := (I64 b.cap ∧ I64 b.aud ∧ I64 b.nx ∧ I64 b.gp) ∧ b.its.length ≤ 1000 ∧ b.rcs.length ≤ 1000 ∧ ∀ t ∈ b.its, t.p.v.length ≤ 100000
theorem copyBxS.new (b : Bx) (h : BxF b) {K : V → List Obj → List Obj → Prop} (hK : K (bxL b) [] [rowIt b.its, rowRc b.rcs]) : AC Try.prog 79 [encBx b] [] K := by
  have h1 := h.2.1
  have h2 := h.2.2.1
  refine ac_body (ann []) [((997, 0), true), ((3, 0), true), ((4, 0), true), ((7, 0), false), ((9, 0), false), ((12, 0), false)] hm htt Try.func79 rfl (by kernel_rfl) rfl rfl ?_
  repeat' ((conv => whnf); first
    | (refine itemsS.new b.its h1 h.2.2.2 ?_)
    | (refine appN (f := encRc) ⟨by decide, rfl, rfl, by simp, ⟨by simp; omega, by simp; omega⟩, rfl, by simp [mentsOne]⟩ ?_)
    | (refine bF_dec (fun _ => ?_) (fun _ => ?_) <;> try (exfalso; omega))
    | (refine bF_eq (fun _ => ?_) (fun _ => ?_) <;> try (exfalso; omega))
    | (refine bF_ne (fun _ => ?_) (fun _ => ?_) <;> try (exfalso; omega))
    | (refine a64 (by omega) ?_)
    | (refine ix_at rfl (by omega) ?_)
    | (refine ⟨⟨rfl, by omega, by omega⟩, ?_⟩)
    | (refine map_at (by omega) ?_)
    | (refine alen ?_)
    | (refine amin ?_)
    | (refine amax ?_)
    | (refine ⟨⟨rfl, rfl, by simp [V.ments, mentsL]⟩, ?_⟩)
    | (refine map_at0 (by omega) ?_)
    | (refine set_at rfl ?_)
    | (refine map_atI (by omega) ?_)
    | (refine map_atI0 (by omega) ?_)
    | (refine set_atI rfl ?_)
    | (refine ⟨⟨by decide, rfl, by omega, by omega, by omega, by dsimp only; omega⟩, ?_⟩)
    | (refine arem (by omega) ?_)
    | (refine aquo (by omega) (by omega) ?_)
    | (refine au8 ?_)
    | (refine au64 (by omega) ?_)
    | (refine anat ?_)
    | (refine szOk rfl ?_)
    | (refine dvOk rfl (by omega) ?_)
    | (refine nzOk (by decide) ?_)
    | (refine lgOk (by kernel_rfl) ?_)
    | (refine kpOk (by kernel_rfl) ?_)
    | fail)
  all_goals conv => whnf
  exact hK
theorem it_at {nx len : Int} {i : Nat} {t : It} (h : ItAt nx len i t) : t.s = nx - len + i ∧ 0 ≤ t.s := ⟨h.1, h.2.1⟩
theorem BoxOkS2 (b : Bx) (h : BxF b) : Two 18 [encBx b] (BxOk b) := fun hT hF => by
  obtain ⟨⟨i1, i2, i3, i4⟩, l1, l2, l3⟩ := h
  unfold I64 at i1 i2 i3 i4
  have hli : (b.its.map encIt).length = b.its.length := List.length_map ..
  have hlr : (b.rcs.map encRc).length = b.rcs.length := List.length_map ..
  refine ac_body (ann [(4, [1, 3], [(3, 0)]), (9, [1, 4], [(3, 0)]), (15, [1, 4, 5, 6], [(3, 0), (7, 0)])]) [((997, 0), true), ((3, 0), true), ((7, 0), true)] hm htt Try.func18 rfl (by kernel_rfl) rfl rfl ?_
  repeat' ((conv => whnf); first
    | (refine l10Cap2 _ (fun _ => ?_) (fun _ => ?_))
    | (refine l10Count2 _ (fun _ => ?_) (fun _ => ?_))
    | (refine bF_dec (fun _ => ?_) (fun _ => ?_) <;> try (exfalso; omega))
    | (refine bF_eq (fun _ => ?_) (fun _ => ?_) <;> try (exfalso; omega))
    | (refine bF_ne (fun _ => ?_) (fun _ => ?_) <;> try (exfalso; omega))
    | (refine a64 (by omega) ?_)
    | (refine ix_at rfl (by omega) ?_)
    | (refine ⟨⟨rfl, by omega, by omega⟩, ?_⟩)
    | (refine map_at (by omega) ?_)
    | (refine alen ?_)
    | (refine amin ?_)
    | (refine amax ?_)
    | (refine ⟨⟨rfl, rfl, by simp [V.ments, mentsL]⟩, ?_⟩)
    | (refine map_at0 (by omega) ?_)
    | (refine set_at rfl ?_)
    | (refine map_atI (by omega) ?_)
    | (refine map_atI0 (by omega) ?_)
    | (refine set_atI rfl ?_)
    | (refine ⟨⟨by decide, rfl, by omega, by omega, by omega, by dsimp only; omega⟩, ?_⟩)
    | (refine arem (by omega) ?_)
    | (refine aquo (by omega) (by omega) ?_)
    | (refine au8 ?_)
    | (refine au64 (by omega) ?_)
    | (refine anat ?_)
    | (refine szOk rfl ?_)
    | (refine dvOk rfl (by omega) ?_)
    | (refine nzOk (by decide) ?_)
    | (refine lgOk (by kernel_rfl) ?_)
    | (refine kpOk (by kernel_rfl) ?_)
    | fail)
  all_goals conv => whnf
  all_goals first | (exact hF fun h => by have := h.hd; unfold BxHd at this; omega) | skip
  have hd : BxHd b := by unfold BxHd; omega
  have hs : ∀ i, i < b.its.length → (∀ t, t = b.its.getD i default → (¬ (t.s = b.nx - b.its.length + i) ∨ t.s < 0 ∨ ¬ RuleI t.r ∨ ¬ PnOk t.p) → ¬ BxOk b) := by
    rintro i hi t rfl hc h
    have := h.its i hi
    unfold ItAt at this
    rcases hc with hc | hc | hc | hc
    · exact hc this.1
    · omega
    · exact hc this.2.2.1
    · exact hc this.2.2.2
  refine cwF_loop (fun m st => ∃ (i : Nat), (m = b.its.length - i ∧ i ≤ b.its.length ∧ ∀ j, j < i → ItAt b.nx b.its.length j (b.its.getD j default)) ∧
    st = ⟨[.un, .lp (3, 0) 6 0 0, .un, iv i] ++ List.replicate 175 .un, mkOb [((3, 0), some (.arr false 6 [encBx b]))]⟩) b.its.length (by kernel_rfl) ⟨0, ⟨rfl, by omega, fun j h => absurd h (by omega)⟩, rfl⟩ ?_
  rintro m st ⟨i, ⟨rfl, hi, hle⟩, rfl⟩
  repeat' ((conv => whnf); first
    | (refine l10Rule2 _ (fun _ => ?_) (fun _ => ?_))
    | (refine PaneOk2 (b.its.getD i default).p (fun _ => ?_) (fun _ => ?_))
    | (refine bF_dec (fun _ => ?_) (fun _ => ?_) <;> try (exfalso; omega))
    | (refine bF_eq (fun _ => ?_) (fun _ => ?_) <;> try (exfalso; omega))
    | (refine bF_ne (fun _ => ?_) (fun _ => ?_) <;> try (exfalso; omega))
    | (refine a64 (by omega) ?_)
    | (refine ix_at rfl (by omega) ?_)
    | (refine ⟨⟨rfl, by omega, by omega⟩, ?_⟩)
    | (refine map_at (by omega) ?_)
    | (refine alen ?_)
    | (refine amin ?_)
    | (refine amax ?_)
    | (refine ⟨⟨rfl, rfl, by simp [V.ments, mentsL]⟩, ?_⟩)
    | (refine map_at0 (by omega) ?_)
    | (refine set_at rfl ?_)
    | (refine map_atI (by omega) ?_)
    | (refine map_atI0 (by omega) ?_)
    | (refine set_atI rfl ?_)
    | (refine ⟨⟨by decide, rfl, by omega, by omega, by omega, by dsimp only; omega⟩, ?_⟩)
    | (refine arem (by omega) ?_)
    | (refine aquo (by omega) (by omega) ?_)
    | (refine au8 ?_)
    | (refine au64 (by omega) ?_)
    | (refine anat ?_)
    | (refine szOk rfl ?_)
    | (refine dvOk rfl (by omega) ?_)
    | (refine nzOk (by decide) ?_)
    | (refine lgOk (by kernel_rfl) ?_)
    | (refine kpOk (by kernel_rfl) ?_)
    | fail)
  all_goals conv => whnf
  all_goals first
    | exact hF (hs i (by omega) _ rfl (.inl (by assumption)))
    | exact hF (hs i (by omega) _ rfl (.inr (.inl (by assumption))))
    | exact hF (hs i (by omega) _ rfl (.inr (.inr (.inl (by assumption)))))
    | exact hF (hs i (by omega) _ rfl (.inr (.inr (.inr (by assumption)))))
    | exact ⟨b.its.length - (i + 1), by omega, i + 1, ⟨rfl, by omega, fun j hj => by
        by_cases h : j = i
        · subst h; exact ⟨by assumption, by omega, by assumption, by assumption⟩
        · exact hle j (by omega)⟩, rfl⟩
    | skip
  have hIt : ∀ j, j < b.its.length → ItAt b.nx b.its.length j (b.its.getD j default) := fun j hj => hle j (by omega)
  have hr : ∀ i, i < b.rcs.length → (∀ t, t = b.rcs.getD i default → (¬ (t.s = b.nx - b.rcs.length + i) ∨ t.s < 0 ∨ ¬ RuleI t.r ∨ t.l < 0 ∨ t.l ≥ 16) → ¬ BxOk b) := by
    rintro i hi t rfl hc h
    have := h.rcs i hi
    unfold RcAt at this
    rcases hc with hc | hc | hc | hc
    · exact hc this.1
    · omega
    · exact hc this.2.2.1
    · omega
  refine cwF_loop (fun m st => ∃ (i : Nat), (m = b.rcs.length - i ∧ i ≤ b.rcs.length ∧ (∀ j, j < i → RcAt b.nx b.rcs.length j (b.rcs.getD j default)) ∧ ∀ j, j < i → ∀ k, k < b.its.length → (b.its.getD k default).s = (b.rcs.getD j default).s → (b.its.getD k default).r = (b.rcs.getD j default).r ∧ (b.its.getD k default).p.l = (b.rcs.getD j default).l) ∧
    st = ⟨[.un, .lp (3, 0) 6 0 0, .un, .un, iv i] ++ List.replicate 174 .un, mkOb [((3, 0), some (.arr false 6 [encBx b]))]⟩) b.rcs.length (by kernel_rfl) ⟨0, ⟨rfl, by omega, fun j h => absurd h (by omega), fun j h => absurd h (by omega)⟩, rfl⟩ ?_
  rintro m st ⟨i, ⟨rfl, hi, hle, heq⟩, rfl⟩
  repeat' ((conv => whnf); first
    | (refine l10Rule2 _ (fun _ => ?_) (fun _ => ?_))
    | (refine bF_dec (fun _ => ?_) (fun _ => ?_) <;> try (exfalso; omega))
    | (refine bF_eq (fun _ => ?_) (fun _ => ?_) <;> try (exfalso; omega))
    | (refine bF_ne (fun _ => ?_) (fun _ => ?_) <;> try (exfalso; omega))
    | (refine a64 (by omega) ?_)
    | (refine ix_at rfl (by omega) ?_)
    | (refine ⟨⟨rfl, by omega, by omega⟩, ?_⟩)
    | (refine map_at (by omega) ?_)
    | (refine alen ?_)
    | (refine amin ?_)
    | (refine amax ?_)
    | (refine ⟨⟨rfl, rfl, by simp [V.ments, mentsL]⟩, ?_⟩)
    | (refine map_at0 (by omega) ?_)
    | (refine set_at rfl ?_)
    | (refine map_atI (by omega) ?_)
    | (refine map_atI0 (by omega) ?_)
    | (refine set_atI rfl ?_)
    | (refine ⟨⟨by decide, rfl, by omega, by omega, by omega, by dsimp only; omega⟩, ?_⟩)
    | (refine arem (by omega) ?_)
    | (refine aquo (by omega) (by omega) ?_)
    | (refine au8 ?_)
    | (refine au64 (by omega) ?_)
    | (refine anat ?_)
    | (refine szOk rfl ?_)
    | (refine dvOk rfl (by omega) ?_)
    | (refine nzOk (by decide) ?_)
    | (refine lgOk (by kernel_rfl) ?_)
    | (refine kpOk (by kernel_rfl) ?_)
    | fail)
  all_goals conv => whnf
  all_goals first
    | exact hF (hr i (by omega) _ rfl (.inl (by assumption)))
    | exact hF (hr i (by omega) _ rfl (.inr (.inl (by assumption))))
    | exact hF (hr i (by omega) _ rfl (.inr (.inr (.inl (by assumption)))))
    | exact hF (hr i (by omega) _ rfl (.inr (.inr (.inr (.inl (by assumption))))))
    | exact hF (hr i (by omega) _ rfl (.inr (.inr (.inr (.inr (by assumption))))))
    | exact hT ⟨hd, hIt, fun j hj => hle j (by omega), fun j k hj hk he => heq j (by omega) k hk he⟩
    | skip
  rename_i c1 c2 c3 c4 c5 c6
  refine cwF_loop (fun m st => ∃ (k : Nat), (m = b.its.length - k ∧ k ≤ b.its.length ∧ ∀ l, l < k → (b.its.getD l default).s = (b.rcs.getD i default).s → (b.its.getD l default).r = (b.rcs.getD i default).r ∧ (b.its.getD l default).p.l = (b.rcs.getD i default).l) ∧
    st = ⟨[.un, .lp (3, 0) 6 0 0, .un, .un, iv i, .lp (7, 0) 3 0 0, iv k] ++ List.replicate 172 .un, mkOb [((3, 0), some (.arr false 6 [encBx b])), ((7, 0), some (.arr false 3 [encRc (b.rcs.getD i default)]))]⟩) b.its.length (by kernel_rfl) ⟨0, ⟨rfl, by omega, fun j h => absurd h (by omega)⟩, rfl⟩ ?_
  rintro m st ⟨k, ⟨rfl, hk, hka⟩, rfl⟩
  have nxt : ∀ {P : Prop}, (P ∨ True) → ((b.its.getD k default).s = (b.rcs.getD i default).s → (b.its.getD k default).r = (b.rcs.getD i default).r ∧ (b.its.getD k default).p.l = (b.rcs.getD i default).l) → ∀ l, l < k + 1 → (b.its.getD l default).s = (b.rcs.getD i default).s → (b.its.getD l default).r = (b.rcs.getD i default).r ∧ (b.its.getD l default).p.l = (b.rcs.getD i default).l := fun _ h l hl => by
    by_cases e : l = k
    · rw [e]; exact h
    · exact hka l (by omega)
  repeat' ((conv => whnf); first
    | (refine bF_dec (fun _ => ?_) (fun _ => ?_) <;> try (exfalso; omega))
    | (refine bF_eq (fun _ => ?_) (fun _ => ?_) <;> try (exfalso; omega))
    | (refine bF_ne (fun _ => ?_) (fun _ => ?_) <;> try (exfalso; omega))
    | (refine a64 (by omega) ?_)
    | (refine ix_at rfl (by omega) ?_)
    | (refine ⟨⟨rfl, by omega, by omega⟩, ?_⟩)
    | (refine map_at (by omega) ?_)
    | (refine alen ?_)
    | (refine amin ?_)
    | (refine amax ?_)
    | (refine ⟨⟨rfl, rfl, by simp [V.ments, mentsL]⟩, ?_⟩)
    | (refine map_at0 (by omega) ?_)
    | (refine set_at rfl ?_)
    | (refine map_atI (by omega) ?_)
    | (refine map_atI0 (by omega) ?_)
    | (refine set_atI rfl ?_)
    | (refine ⟨⟨by decide, rfl, by omega, by omega, by omega, by dsimp only; omega⟩, ?_⟩)
    | (refine arem (by omega) ?_)
    | (refine aquo (by omega) (by omega) ?_)
    | (refine au8 ?_)
    | (refine au64 (by omega) ?_)
    | (refine anat ?_)
    | (refine szOk rfl ?_)
    | (refine dvOk rfl (by omega) ?_)
    | (refine nzOk (by decide) ?_)
    | (refine lgOk (by kernel_rfl) ?_)
    | (refine kpOk (by kernel_rfl) ?_)
    | fail)
  all_goals conv => whnf
  all_goals first
    | exact ⟨b.its.length - (k + 1), by omega, k + 1, ⟨rfl, by omega, nxt (P := True) (.inr trivial) (fun _ => ⟨by assumption, by assumption⟩)⟩, rfl⟩
    | exact ⟨b.its.length - (k + 1), by omega, k + 1, ⟨rfl, by omega, nxt (P := True) (.inr trivial) (fun h => absurd h (by assumption))⟩, rfl⟩
    | exact ⟨b.rcs.length - (i + 1), by omega, i + 1, ⟨rfl, by omega, fun j hj => by
        by_cases e : j = i
        · rw [e]; unfold RcAt; exact ⟨c2, by omega, c4, by omega, by omega⟩
        · exact hle j (by omega), fun j hj => by
        by_cases e : j = i
        · rw [e]; exact fun l hl => hka l (by omega)
        · exact heq j (by omega)⟩, rfl⟩
    | exact hF fun h => absurd (h.eq i k (by omega) (by omega) (by assumption)).1 (by assumption)
    | exact hF fun h => absurd (h.eq i k (by omega) (by omega) (by assumption)).2 (by assumption)
    | trace_state
end Go.Eng.T
