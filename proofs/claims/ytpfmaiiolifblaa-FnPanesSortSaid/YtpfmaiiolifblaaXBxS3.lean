import Derived.Test.YtpfmaiiolifblaaXBxS2
namespace Go.Eng.T
open Go.Proofs Go.Eng
set_option maxRecDepth 100000
set_option maxHeartbeats 0

theorem BxOk.dropI {b : Bx} (h : BxOk b) (j : Nat) : BxOk { b with its := b.its.drop j } := by
  obtain ⟨h0, h1, h2, h3⟩ := h
  have hl : (b.its.drop j).length = b.its.length - j := List.length_drop
  have hg : ∀ i, (b.its.drop j).getD i default = b.its.getD (j + i) default := fun i => by rw [List.getD_eq_getElem?_getD, List.getElem?_drop, List.getD_eq_getElem?_getD]
  refine ⟨?_, ?_, h2, ?_⟩
  · unfold BxHd at h0 ⊢; dsimp only; omega
  · intro i hi
    dsimp only at hi ⊢
    rw [hg, hl]
    have := h1 (j + i) (by omega)
    unfold ItAt at this ⊢
    exact ⟨by omega, this.2⟩
  · intro i k hi hk he
    dsimp only at hi hk he ⊢
    rw [hg] at he ⊢
    exact h3 i (j + k) hi (by omega) he
theorem BxOk.dropR {b : Bx} (h : BxOk b) (j : Nat) : BxOk { b with rcs := b.rcs.drop j } := by
  obtain ⟨h0, h1, h2, h3⟩ := h
  have hl : (b.rcs.drop j).length = b.rcs.length - j := List.length_drop
  have hg : ∀ i, (b.rcs.drop j).getD i default = b.rcs.getD (j + i) default := fun i => by rw [List.getD_eq_getElem?_getD, List.getElem?_drop, List.getD_eq_getElem?_getD]
  refine ⟨?_, h1, ?_, ?_⟩
  · unfold BxHd at h0 ⊢; dsimp only; omega
  · intro i hi
    dsimp only at hi ⊢
    rw [hg, hl]
    have := h2 (j + i) (by omega)
    unfold RcAt at this ⊢
    exact ⟨by omega, this.2⟩
  · intro i k hi hk he
    dsimp only at hi hk he ⊢
    rw [hg] at he ⊢
    exact h3 (j + i) k (by omega) hk he
theorem BxOk.F {b : Bx} (h : BxOk b) : BxF b := by
  have h0 := h.hd
  unfold BxHd at h0
  refine ⟨⟨?_, ?_, ?_, ?_⟩, by omega, by omega, fun t ht => ?_⟩
  · unfold I64; omega
  · unfold I64; omega
  · unfold I64; omega
  · unfold I64; omega
  · obtain ⟨i, hi, rfl⟩ := List.mem_iff_getElem.1 ht
    have := (h.its i hi).2.2.2
    rw [List.getD_eq_getElem?_getD, List.getElem?_eq_getElem hi] at this
    have h2 := this.2.2.2.2.2.1
    show (b.its[i]).p.v.length ≤ 100000
    exact Nat.le_trans h2 (by decide)
/-- A pane is put (spec): all that may come out. -/
theorem BoxPutS.new (b : Bx) (p : Pn) (r : Int) (hb : BxF b) (hp : p.v.length ≤ 100000) (hr : I64 r) {K : V → List Obj → List Obj → Prop}
    (h1 : BxOk b → PnOk p → RuleI r → inB (putB b p r) → K (.tup [bxL (putB b p r), bv true]) [] [rowIt (putB b p r).its, rowRc (putB b p r).rcs])
    (h0 : ¬ (BxOk b ∧ PnOk p ∧ RuleI r ∧ inB (putB b p r)) → K (.tup [bx0, bv false]) [] []) : AC Try.prog 80 [encBx b, encPn p, iv r] [] K := by
  have h2 : BxOk b → BxHd b := fun h => h.hd
  unfold BxHd at h2
  have hp1 : (b.its.length : Int) < b.cap ∧ (b.rcs.length : Int) < b.aud → putB b p r = { b with nx := b.nx + 1, its := b.its ++ [⟨b.nx, r, p⟩], rcs := b.rcs ++ [⟨b.nx, r, p.l⟩] } := fun h => by unfold putB; rw [if_pos h]
  have hk1 : ∀ b', b' = putB b p r → BxOk b → PnOk p → RuleI r → inB (putB b p r) → K (.tup [bxL b', bv true]) [] [rowIt b'.its, rowRc b'.rcs] := by rintro _ rfl; exact h1
  have hp0 : ¬ ((b.its.length : Int) < b.cap ∧ (b.rcs.length : Int) < b.aud) → putB b p r = { b with gp := b.gp + 1 } := fun h => by unfold putB; rw [if_neg h]
  refine ac_body (ann []) [((997, 0), true), ((5, 0), true), ((6, 0), true), ((8, 0), true), ((26, 0), false), ((26, 1), false), ((10, 0), true), ((53, 0), true), ((54, 0), false), ((64, 0), true), ((65, 0), false)] hm htt Try.func80 rfl (by kernel_rfl) rfl rfl ?_
  repeat' ((conv => whnf); first
    | (refine BoxOkS2 b hb (fun hok => ?_) (fun _ => ?_); have h3 := h2 hok)
    | (refine PaneOk2 p (fun _ => ?_) (fun _ => ?_))
    | (refine l10Rule2 r (fun _ => ?_) (fun _ => ?_))
    | (refine copyBxS.new b hb ?_)
    | (refine copyPnS.ac p hp ?_)
    | (refine app1 (f := encIt) (x := ⟨b.nx, r, p⟩) ⟨by decide, rfl, rfl, by simp, ⟨by simp; omega, by simp; omega⟩, rfl, by simp [mentsOne]⟩ rfl ?_)
    | (refine app1 (f := encRc) (x := ⟨b.nx, r, p.l⟩) ⟨by decide, rfl, rfl, by simp, ⟨by simp; omega, by simp; omega⟩, rfl, by simp [mentsOne]⟩ rfl ?_)
    | (refine bF_dec (fun _ => ?_) (fun _ => ?_) <;> try (exfalso; omega))
    | (refine bF_eq (fun _ => ?_) (fun _ => ?_) <;> try (exfalso; omega))
    | (refine bF_ne (fun _ => ?_) (fun _ => ?_) <;> try (exfalso; omega))
    | (refine a64 (by omega) ?_)
    | (refine ix_at rfl (by omega) ?_)
    | (refine ⟨⟨rfl, by omega, by omega⟩, ?_⟩)
    | (refine map_at (by omega) ?_)
    | (refine alen ?_)
    | (refine amin ?_)
    | (refine amax ?_)
    | (refine ⟨⟨rfl, rfl, by simp [V.ments, mentsL]⟩, ?_⟩)
    | (refine map_at0 (by omega) ?_)
    | (refine set_at rfl ?_)
    | (refine map_atI (by omega) ?_)
    | (refine map_atI0 (by omega) ?_)
    | (refine set_atI rfl ?_)
    | (refine ⟨⟨by decide, rfl, by omega, by omega, by omega, by dsimp only; omega⟩, ?_⟩)
    | (refine arem (by omega) ?_)
    | (refine aquo (by omega) (by omega) ?_)
    | (refine au8 ?_)
    | (refine au64 (by omega) ?_)
    | (refine anat ?_)
    | (refine szOk rfl ?_)
    | (refine dvOk rfl (by omega) ?_)
    | (refine nzOk (by decide) ?_)
    | (refine lgOk (by kernel_rfl) ?_)
    | (refine kpOk (by kernel_rfl) ?_)
    | fail)
  all_goals conv => whnf
  all_goals first
    | exact hk1 _ (hp0 (by omega)).symm hok (by assumption) (by assumption) (by rw [hp0 (by omega)]; unfold inB; dsimp only; omega)
    | exact hk1 _ (hp1 (by omega)).symm hok (by assumption) (by assumption) (by rw [hp1 (by omega)]; unfold inB; dsimp only; omega)
    | exact h0 fun h => by have := h.2.2.2; rw [hp0 (by omega)] at this; unfold inB at this; dsimp only at this; omega
    | exact h0 fun h => by have := h.2.2.2; rw [hp1 (by omega)] at this; unfold inB at this; dsimp only at this; omega
    | exact h0 fun h => absurd h.1 (by assumption)
    | exact h0 fun h => absurd h.2.1 (by assumption)
    | exact h0 fun h => absurd h.2.2.1 (by assumption)
    | trace_state
end Go.Eng.T
