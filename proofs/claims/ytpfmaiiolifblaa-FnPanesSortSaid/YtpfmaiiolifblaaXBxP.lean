import Derived.Test.YtpfmaiiolifblaaXBxA
import Derived.Test.YtpfmaiiolifblaaXBxS
namespace Go.Eng.T
open Go.Proofs Go.Eng
set_option maxRecDepth 100000
set_option maxHeartbeats 0

/-- An empty row is none, or one at some place. -/
theorem AC.nil2 {P : Program} {f : FuncId} {n : Nat} {xs : List V} {objs : List Obj} {K : V → List Obj → List Obj → Prop} (h0 : AC P f (nilS :: xs) objs K) (h1 : ∀ a c, AC P f (.lit (.slice (some a) 0 c) :: xs) objs K) : AC P f (.is n [] :: xs) objs K := by
  intro F pl w cargs hw hsz hrep
  have hz : 0 < cargs.size := by rw [hsz]; simp
  have h00 := hrep 0 (.is n []) hz rfl
  rcases h00.is_inv with ⟨_, e⟩ | ⟨a, cap, cf, _, _, _, _, _, e⟩
  · refine h0 F pl w cargs hw (by simpa using hsz) fun i x hi hx => ?_
    cases i with
    | zero => obtain rfl : nilS = x := by simpa using hx
              rw [e]; exact .lit
    | succ i => exact hrep (i + 1) x hi (by simpa using hx)
  · refine h1 a cap F pl w cargs hw (by simpa using hsz) fun i x hi hx => ?_
    cases i with
    | zero => obtain rfl : V.lit (.slice (some a) 0 cap) = x := by simpa using hx
              rw [e]; exact .lit
    | succ i => exact hrep (i + 1) x hi (by simpa using hx)
theorem cloneI.ac (l : List Int) (hl : l.length ≤ 100000) {K : V → List Obj → List Obj → Prop} (hK : K (.is 1 (l.map iv)) [] []) : AC Try.prog 125 [.is 1 (l.map iv)] [] K := by
  refine AC.weak (AC.frzO ?_)
  have row : ∀ m, m = l → FrO (fun v o n => ∃ v', Wk v v' ∧ K v' o n) (.ls (1, 0) 1 0 m.length) [] [rowI m] := by
    rintro m rfl
    exact .inl ⟨.is 1 (m.map iv), [], 1, _, rfl, .one (.all (by simp)), by simp, ⟨_, Wk.refl, hK⟩⟩
  cases l with
  | nil =>
    refine AC.nil2 ?_ fun a c => ?_
    · refine ac_body (ann []) [((997, 0), true), ((7, 0), false), ((9, 0), false)] hm htt Try.func125 rfl (by kernel_rfl) rfl rfl ?_
      repeat' ((conv => whnf); first
        | (refine bF_dec (fun _ => ?_) (fun _ => ?_) <;> try (exfalso; omega))
        | (refine bF_eq (fun _ => ?_) (fun _ => ?_) <;> try (exfalso; omega))
        | (refine bF_ne (fun _ => ?_) (fun _ => ?_) <;> try (exfalso; omega))
        | (refine a64 (by omega) ?_)
        | (refine ix_at rfl (by omega) ?_)
        | (refine ⟨⟨rfl, by omega, by omega⟩, ?_⟩)
        | (refine map_at (by omega) ?_)
        | (refine alen ?_)
        | (refine amin ?_)
        | (refine amax ?_)
        | (refine ⟨⟨rfl, rfl, by simp [V.ments, mentsL]⟩, ?_⟩)
        | (refine map_at0 (by omega) ?_)
        | (refine set_at rfl ?_)
        | (refine map_atI (by omega) ?_)
        | (refine map_atI0 (by omega) ?_)
        | (refine set_atI rfl ?_)
        | (refine ⟨⟨by decide, rfl, by omega, by omega, by omega, by dsimp only; omega⟩, ?_⟩)
        | (refine arem (by omega) ?_)
        | (refine aquo (by omega) (by omega) ?_)
        | (refine au8 ?_)
        | (refine au64 (by omega) ?_)
        | (refine anat ?_)
        | (refine szOk rfl ?_)
        | (refine dvOk rfl (by omega) ?_)
        | (refine nzOk (by decide) ?_)
        | (refine lgOk (by kernel_rfl) ?_)
        | (refine kpOk (by kernel_rfl) ?_)
        | fail)
      all_goals conv => whnf
      exact .inr ⟨_, Wk.nil, hK⟩
    · refine ac_body (ann []) [((997, 0), true), ((7, 0), false), ((9, 0), false)] hm htt Try.func125 rfl (by kernel_rfl) rfl rfl ?_
      repeat' ((conv => whnf); first
        | (refine appN (f := iv) (m := ([] : List Int)) ⟨by decide, rfl, rfl, by simp, ⟨by decide, by decide⟩, rfl, by simp [mentsOne]⟩ ?_)
        | (refine bF_dec (fun _ => ?_) (fun _ => ?_) <;> try (exfalso; omega))
        | (refine bF_eq (fun _ => ?_) (fun _ => ?_) <;> try (exfalso; omega))
        | (refine bF_ne (fun _ => ?_) (fun _ => ?_) <;> try (exfalso; omega))
        | (refine a64 (by omega) ?_)
        | (refine ix_at rfl (by omega) ?_)
        | (refine ⟨⟨rfl, by omega, by omega⟩, ?_⟩)
        | (refine map_at (by omega) ?_)
        | (refine alen ?_)
        | (refine amin ?_)
        | (refine amax ?_)
        | (refine ⟨⟨rfl, rfl, by simp [V.ments, mentsL]⟩, ?_⟩)
        | (refine map_at0 (by omega) ?_)
        | (refine set_at rfl ?_)
        | (refine map_atI (by omega) ?_)
        | (refine map_atI0 (by omega) ?_)
        | (refine set_atI rfl ?_)
        | (refine ⟨⟨by decide, rfl, by omega, by omega, by omega, by dsimp only; omega⟩, ?_⟩)
        | (refine arem (by omega) ?_)
        | (refine aquo (by omega) (by omega) ?_)
        | (refine au8 ?_)
        | (refine au64 (by omega) ?_)
        | (refine anat ?_)
        | (refine szOk rfl ?_)
        | (refine dvOk rfl (by omega) ?_)
        | (refine nzOk (by decide) ?_)
        | (refine lgOk (by kernel_rfl) ?_)
        | (refine kpOk (by kernel_rfl) ?_)
        | fail)
      all_goals conv => whnf
      exact row _ rfl
  | cons x l =>
    refine ac_body (ann []) [((997, 0), true), ((7, 0), false), ((9, 0), false)] hm htt Try.func125 rfl (by kernel_rfl) rfl rfl ?_
    repeat' ((conv => whnf); first
      | (refine appN (f := iv) (m := x :: l) ⟨by decide, rfl, rfl, by simp, ⟨by simp at hl ⊢; omega, by simp at hl ⊢; omega⟩, rfl, by simp [mentsOne]⟩ ?_)
      | (refine bF_dec (fun _ => ?_) (fun _ => ?_) <;> try (exfalso; omega))
      | (refine bF_eq (fun _ => ?_) (fun _ => ?_) <;> try (exfalso; omega))
      | (refine bF_ne (fun _ => ?_) (fun _ => ?_) <;> try (exfalso; omega))
      | (refine a64 (by omega) ?_)
      | (refine ix_at rfl (by omega) ?_)
      | (refine ⟨⟨rfl, by omega, by omega⟩, ?_⟩)
      | (refine map_at (by omega) ?_)
      | (refine alen ?_)
      | (refine amin ?_)
      | (refine amax ?_)
      | (refine ⟨⟨rfl, rfl, by simp [V.ments, mentsL]⟩, ?_⟩)
      | (refine map_at0 (by omega) ?_)
      | (refine set_at rfl ?_)
      | (refine map_atI (by omega) ?_)
      | (refine map_atI0 (by omega) ?_)
      | (refine set_atI rfl ?_)
      | (refine ⟨⟨by decide, rfl, by omega, by omega, by omega, by dsimp only; omega⟩, ?_⟩)
      | (refine arem (by omega) ?_)
      | (refine aquo (by omega) (by omega) ?_)
      | (refine au8 ?_)
      | (refine au64 (by omega) ?_)
      | (refine anat ?_)
      | (refine szOk rfl ?_)
      | (refine dvOk rfl (by omega) ?_)
      | (refine nzOk (by decide) ?_)
      | (refine lgOk (by kernel_rfl) ?_)
      | (refine kpOk (by kernel_rfl) ?_)
      | fail)
    all_goals conv => whnf
    exact row _ rfl
end Go.Eng.T
