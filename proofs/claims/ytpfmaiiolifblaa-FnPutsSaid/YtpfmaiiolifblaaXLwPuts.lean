import Derived.Test.YtpfmaiiolifblaaXBxQ4
import Derived.Test.YtpfmaiiolifblaaXLwPoll
namespace Go.Eng.T
open Go.Proofs Go.Eng
set_option maxRecDepth 100000
set_option maxHeartbeats 0

theorem PutsS.yes (b c : Bx) (l : List Pn) (r : Int) (hb : BxF b) (hl : ∀ p ∈ l, p.v.length ≤ 100000) (hll : l.length ≤ 1000) (hr : I64 r) (hok : BxOk b) (hc : putsB r b l = some c) {K : V → List Obj → List Obj → Prop} (hK : K (.tup [encBx c, bv true]) [] []) : AC Try.prog 24 [encBx b, .is 8 (l.map encPn), iv r] [] K :=
  PutsS.fz b l r hb hl hll hr (fun d _ hd => by rw [hc] at hd; cases hd; exact hK) fun h => by
    rcases h with h | h
    · exact absurd hok h
    · rw [hc] at h; cases h
theorem PutsI.yes (b c : Bx) (l : List Pn) (r : Int) (hb : BxF b) (hl : ∀ p ∈ l, p.v.length ≤ 100000) (hll : l.length ≤ 1000) (hok : BxOk b) (hc : putsB r b l = some c) {K : V → List Obj → List Obj → Prop} (hK : K (.tup [encBx c, bv true]) [] []) : AC Try.prog 25 [encBx b, .is 8 (l.map encPn), iv r] [] K :=
  PutsI.fz b l r hb hl hll (fun d _ hd => by rw [hc] at hd; cases hd; exact hK) fun h => by
    rcases h with h | h
    · exact absurd hok h
    · rw [hc] at h; cases h
theorem PutI.yes (b c : Bx) (p : Pn) (r : Int) (hb : BxF b) (hl : p.v.length ≤ 100000) (hok : BxOk b) (hc : putsB r b [p] = some c) {K : V → List Obj → List Obj → Prop} (hK : K (.tup [encBx c, bv true]) [] []) : AC Try.prog 17 [encBx b, encPn p, iv r] [] K :=
  PutI.fz b p r hb hl (fun d _ hd => by rw [hc] at hd; cases hd; exact hK) fun h => by
    rcases h with h | h
    · exact absurd hok h
    · rw [hc] at h; cases h
theorem PutsS.no (b : Bx) (l : List Pn) (r : Int) (hb : BxF b) (hl : ∀ p ∈ l, p.v.length ≤ 100000) (hll : l.length ≤ 1000) (hr : I64 r) (hn : ¬ BxOk b ∨ putsB r b l = none) {K : V → List Obj → List Obj → Prop} (hK : K (.tup [encBx bxZ, bv false]) [] []) : AC Try.prog 24 [encBx b, .is 8 (l.map encPn), iv r] [] K :=
  PutsS.fz b l r hb hl hll hr (fun d hok hd => by
    rcases hn with h | h
    · exact absurd hok h
    · rw [hd] at h; cases h) fun _ => hK
theorem PutsI.no (b : Bx) (l : List Pn) (r : Int) (hb : BxF b) (hl : ∀ p ∈ l, p.v.length ≤ 100000) (hll : l.length ≤ 1000) (hn : ¬ BxOk b ∨ putsB r b l = none) {K : V → List Obj → List Obj → Prop} (hK : K (.tup [encBx bxZ, bv false]) [] []) : AC Try.prog 25 [encBx b, .is 8 (l.map encPn), iv r] [] K :=
  PutsI.fz b l r hb hl hll (fun d hok hd => by
    rcases hn with h | h
    · exact absurd hok h
    · rw [hd] at h; cases h) fun _ => hK
theorem puts_step {r : Int} {b c e : Bx} {l : List Pn} {i : Nat} (h : i < l.length) (hp : putsB r b (l.take i) = some e) (hc : putsB r b l = some c) : ∃ d, putsB r e [l.getD i default] = some d ∧ putsB r b (l.take (i + 1)) = some d := by
  have e1 : putsB r b (l.take (i + 1)) = putsB r e [l.getD i default] := by rw [← take_succD h, putsB_snoc, hp]; rfl
  cases hd : putsB r e [l.getD i default] with
  | some d => exact ⟨d, rfl, by rw [e1, hd]⟩
  | none => have := putsB_none (r := r) (b := b) (l := l) (i := i + 1) (by omega) (by rw [e1, hd]); rw [this] at hc; cases hc
theorem FnPuts.ac (D : List Int) (hd : Bytes D) {K : V → List Obj → List Obj → Prop} (hK : K (bv true) [] []) : AC Try.prog 5 [.is 1 (D.map encB)] [] K := by
  refine ac_body (ann [(10, [3, 4, 5, 8, 10, 11], [(5, 0), (10, 0), (12, 0)])]) [((997, 0), true), ((5, 0), true), ((8, 0), true), ((10, 0), true), ((12, 0), true), ((14, 0), true)] hm htt Try.func5 rfl (by kernel_rfl) rfl rfl ?_
  conv => whnf
  refine big2 D (fun _ => ?_) (fun hbig => ?_)
  · conv => whnf
    exact hK
  conv => whnf
  refine drawPuts8 D hd (by omega) fun b l r hb hl hll hr => ?_
  have hbF := BxI.F hb
  have hlv : ∀ p ∈ l, p.v.length ≤ 100000 := fun p hp => Nat.le_trans (hl p hp).len (by decide)
  by_cases hno : ¬ BxOk b ∨ putsB r b l = none
  · have hz : (([] : List It)).length ≤ 100000 := by simp
    repeat' ((conv => whnf); first
      | (refine PutsS.no b l r hbF hlv (by omega) hr hno ?_)
      | (refine PutsI.no b l r hbF hlv (by omega) hno ?_)
      | (refine sameItemsT [] (by simp) (fun _ h => nomatch h) ?_)
      | (refine bF_dec (fun _ => ?_) (fun _ => ?_) <;> try (exfalso; omega))
      | (refine bF_eq (fun _ => ?_) (fun _ => ?_) <;> try (exfalso; omega))
      | (refine bF_ne (fun _ => ?_) (fun _ => ?_) <;> try (exfalso; omega))
      | (refine a64 (by omega) ?_)
      | (refine ix_at rfl (by omega) ?_)
      | (refine ⟨⟨rfl, by omega, by omega⟩, ?_⟩)
      | (refine map_at (by omega) ?_)
      | (refine alen ?_)
      | (refine amin ?_)
      | (refine amax ?_)
      | (refine ⟨⟨rfl, rfl, by simp [V.ments, mentsL]⟩, ?_⟩)
      | (refine map_at0 (by omega) ?_)
      | (refine set_at rfl ?_)
      | (refine map_atI (by omega) ?_)
      | (refine map_atI0 (by omega) ?_)
      | (refine set_atI rfl ?_)
      | (refine ⟨⟨by decide, rfl, by omega, by omega, by omega, by dsimp only; omega⟩, ?_⟩)
      | (refine arem (by omega) ?_)
      | (refine aquo (by omega) (by omega) ?_)
      | (refine au8 ?_)
      | (refine au64 (by omega) ?_)
      | (refine anat ?_)
      | (refine szOk rfl ?_)
      | (refine dvOk rfl (by omega) ?_)
      | (refine nzOk (by decide) ?_)
      | (refine lgOk (by kernel_rfl) ?_)
      | (refine kpOk (by kernel_rfl) ?_)
      | fail)
    all_goals conv => whnf
    exact hK
  · have hok : BxOk b := Classical.byContradiction fun h => hno (.inl h)
    obtain ⟨c, hc⟩ : ∃ c, putsB r b l = some c := by
      cases h : putsB r b l with
      | some c => exact ⟨c, rfl⟩
      | none => exact absurd (.inr h) hno
    have hcok := putsB_ok l b c hok hc
    have hcF := BxOk.F hcok
    have hsum := putsB_sum l b c hc
    repeat' ((conv => whnf); first
      | (refine PutsS.yes b c l r hbF hlv (by omega) hr hok hc ?_)
      | (refine PutsI.yes b c l r hbF hlv (by omega) hok hc ?_)
      | (refine sameItemsT c.its (Nat.le_trans hcF.2.1 (by decide)) hcF.2.2.2 ?_)
      | (refine bF_dec (fun _ => ?_) (fun _ => ?_) <;> try (exfalso; omega))
      | (refine bF_eq (fun _ => ?_) (fun _ => ?_) <;> try (exfalso; omega))
      | (refine bF_ne (fun _ => ?_) (fun _ => ?_) <;> try (exfalso; omega))
      | (refine a64 (by omega) ?_)
      | (refine ix_at rfl (by omega) ?_)
      | (refine ⟨⟨rfl, by omega, by omega⟩, ?_⟩)
      | (refine map_at (by omega) ?_)
      | (refine alen ?_)
      | (refine amin ?_)
      | (refine amax ?_)
      | (refine ⟨⟨rfl, rfl, by simp [V.ments, mentsL]⟩, ?_⟩)
      | (refine map_at0 (by omega) ?_)
      | (refine set_at rfl ?_)
      | (refine map_atI (by omega) ?_)
      | (refine map_atI0 (by omega) ?_)
      | (refine set_atI rfl ?_)
      | (refine ⟨⟨by decide, rfl, by omega, by omega, by omega, by dsimp only; omega⟩, ?_⟩)
      | (refine arem (by omega) ?_)
      | (refine aquo (by omega) (by omega) ?_)
      | (refine au8 ?_)
      | (refine au64 (by omega) ?_)
      | (refine anat ?_)
      | (refine szOk rfl ?_)
      | (refine dvOk rfl (by omega) ?_)
      | (refine nzOk (by decide) ?_)
      | (refine lgOk (by kernel_rfl) ?_)
      | (refine kpOk (by kernel_rfl) ?_)
      | fail)
    all_goals conv => whnf
    refine cwF_loop (fun m st => ∃ (i : Nat) (e : Bx), (m = l.length - i ∧ i ≤ l.length ∧ BxOk e ∧ putsB r b (l.take i) = some e) ∧
      st = ⟨[.un, .un, .un, .lp (5, 0) 6 0 0, .is 8 (l.map encPn), iv r, .un, .un, .lp (10, 0) 6 0 0, .un, .lp (12, 0) 6 0 0, iv i] ++ List.replicate 113 .un, mkOb [((5, 0), some (.arr false 6 [encBx b])), ((10, 0), some (.arr false 6 [encBx c])), ((12, 0), some (.arr false 6 [encBx e]))]⟩) l.length (by kernel_rfl) ⟨0, b, ⟨rfl, by omega, hok, rfl⟩, rfl⟩ ?_
    rintro m st ⟨i, e, ⟨rfl, hi, heo, hp⟩, rfl⟩
    by_cases hil : i < l.length
    · obtain ⟨d, hd1, hd2⟩ := puts_step hil hp hc
      have hgl : (l.getD i default).v.length ≤ 100000 := by rw [List.getD_eq_getElem?_getD, List.getElem?_eq_getElem hil]; exact hlv _ (List.getElem_mem hil)
      have hdo := putsB_ok _ e d heo hd1
      repeat' ((conv => whnf); first
        | (refine PutI.yes e d (l.getD i default) r (BxOk.F heo) hgl heo hd1 ?_)
        | (refine bF_dec (fun _ => ?_) (fun _ => ?_) <;> try (exfalso; omega))
        | (refine bF_eq (fun _ => ?_) (fun _ => ?_) <;> try (exfalso; omega))
        | (refine bF_ne (fun _ => ?_) (fun _ => ?_) <;> try (exfalso; omega))
        | (refine a64 (by omega) ?_)
        | (refine ix_at rfl (by omega) ?_)
        | (refine ⟨⟨rfl, by omega, by omega⟩, ?_⟩)
        | (refine map_at (by omega) ?_)
        | (refine alen ?_)
        | (refine amin ?_)
        | (refine amax ?_)
        | (refine ⟨⟨rfl, rfl, by simp [V.ments, mentsL]⟩, ?_⟩)
        | (refine map_at0 (by omega) ?_)
        | (refine set_at rfl ?_)
        | (refine map_atI (by omega) ?_)
        | (refine map_atI0 (by omega) ?_)
        | (refine set_atI rfl ?_)
        | (refine ⟨⟨by decide, rfl, by omega, by omega, by omega, by dsimp only; omega⟩, ?_⟩)
        | (refine arem (by omega) ?_)
        | (refine aquo (by omega) (by omega) ?_)
        | (refine au8 ?_)
        | (refine au64 (by omega) ?_)
        | (refine anat ?_)
        | (refine szOk rfl ?_)
        | (refine dvOk rfl (by omega) ?_)
        | (refine nzOk (by decide) ?_)
        | (refine lgOk (by kernel_rfl) ?_)
        | (refine kpOk (by kernel_rfl) ?_)
        | fail)
      all_goals conv => whnf
      exact ⟨l.length - (i + 1), by omega, i + 1, d, ⟨rfl, by omega, hdo, hd2⟩, rfl⟩
    · rw [List.take_of_length_le (by omega), hc] at hp
      cases hp
      have hh := hcok.hd
      have hh2 := hok.hd
      unfold BxHd at hh hh2
      repeat' ((conv => whnf); first
        | (refine sameItemsT c.its (Nat.le_trans hcF.2.1 (by decide)) hcF.2.2.2 ?_)
        | (refine bF_dec (fun _ => ?_) (fun _ => ?_) <;> try (exfalso; omega))
        | (refine bF_eq (fun _ => ?_) (fun _ => ?_) <;> try (exfalso; omega))
        | (refine bF_ne (fun _ => ?_) (fun _ => ?_) <;> try (exfalso; omega))
        | (refine a64 (by omega) ?_)
        | (refine ix_at rfl (by omega) ?_)
        | (refine ⟨⟨rfl, by omega, by omega⟩, ?_⟩)
        | (refine map_at (by omega) ?_)
        | (refine alen ?_)
        | (refine amin ?_)
        | (refine amax ?_)
        | (refine ⟨⟨rfl, rfl, by simp [V.ments, mentsL]⟩, ?_⟩)
        | (refine map_at0 (by omega) ?_)
        | (refine set_at rfl ?_)
        | (refine map_atI (by omega) ?_)
        | (refine map_atI0 (by omega) ?_)
        | (refine set_atI rfl ?_)
        | (refine ⟨⟨by decide, rfl, by omega, by omega, by omega, by dsimp only; omega⟩, ?_⟩)
        | (refine arem (by omega) ?_)
        | (refine aquo (by omega) (by omega) ?_)
        | (refine au8 ?_)
        | (refine au64 (by omega) ?_)
        | (refine anat ?_)
        | (refine szOk rfl ?_)
        | (refine dvOk rfl (by omega) ?_)
        | (refine nzOk (by decide) ?_)
        | (refine lgOk (by kernel_rfl) ?_)
        | (refine kpOk (by kernel_rfl) ?_)
        | fail)
      all_goals conv => whnf
      all_goals first
        | exact hK
        | (exfalso; omega)
        | trace_state
end Go.Eng.T
