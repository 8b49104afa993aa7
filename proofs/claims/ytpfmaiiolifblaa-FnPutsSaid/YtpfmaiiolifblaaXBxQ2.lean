import Derived.Test.YtpfmaiiolifblaaXBxQ1
namespace Go.Eng.T
open Go.Proofs Go.Eng
set_option maxRecDepth 100000
set_option maxHeartbeats 0

/-- A copy of records: none, or a new row. -/
theorem cloneR.ac (l : List Rc) (hl : l.length ≤ 100000) {K : V → List Obj → List Obj → Prop} (hN : l = [] → K nilS [] []) (hR : K (.ls (1, 0) 3 0 l.length) [] [rowRc l]) : AC Try.prog 147 [.is 3 (l.map encRc)] [] K := by
  cases l with
  | nil =>
    refine AC.nil2 ?_ fun a c => ?_
    · refine ac_body (ann []) [((997, 0), true), ((7, 0), false), ((9, 0), false)] hm htt Try.func147 rfl (by kernel_rfl) rfl rfl ?_
      repeat' ((conv => whnf); first
        | (refine bF_dec (fun _ => ?_) (fun _ => ?_) <;> try (exfalso; omega))
        | (refine bF_eq (fun _ => ?_) (fun _ => ?_) <;> try (exfalso; omega))
        | (refine bF_ne (fun _ => ?_) (fun _ => ?_) <;> try (exfalso; omega))
        | (refine a64 (by omega) ?_)
        | (refine ix_at rfl (by omega) ?_)
        | (refine ⟨⟨rfl, by omega, by omega⟩, ?_⟩)
        | (refine map_at (by omega) ?_)
        | (refine alen ?_)
        | (refine amin ?_)
        | (refine amax ?_)
        | (refine ⟨⟨rfl, rfl, by simp [V.ments, mentsL]⟩, ?_⟩)
        | (refine map_at0 (by omega) ?_)
        | (refine set_at rfl ?_)
        | (refine map_atI (by omega) ?_)
        | (refine map_atI0 (by omega) ?_)
        | (refine set_atI rfl ?_)
        | (refine ⟨⟨by decide, rfl, by omega, by omega, by omega, by dsimp only; omega⟩, ?_⟩)
        | (refine arem (by omega) ?_)
        | (refine aquo (by omega) (by omega) ?_)
        | (refine au8 ?_)
        | (refine au64 (by omega) ?_)
        | (refine anat ?_)
        | (refine szOk rfl ?_)
        | (refine dvOk rfl (by omega) ?_)
        | (refine nzOk (by decide) ?_)
        | (refine lgOk (by kernel_rfl) ?_)
        | (refine kpOk (by kernel_rfl) ?_)
        | fail)
      all_goals conv => whnf
      exact hN rfl
    · refine ac_body (ann []) [((997, 0), true), ((7, 0), false), ((9, 0), false)] hm htt Try.func147 rfl (by kernel_rfl) rfl rfl ?_
      repeat' ((conv => whnf); first
        | (refine appN (f := encRc) (m := ([] : List Rc)) ⟨by decide, rfl, rfl, by simp, ⟨by decide, by decide⟩, rfl, by simp [mentsOne]⟩ ?_)
        | (refine bF_dec (fun _ => ?_) (fun _ => ?_) <;> try (exfalso; omega))
        | (refine bF_eq (fun _ => ?_) (fun _ => ?_) <;> try (exfalso; omega))
        | (refine bF_ne (fun _ => ?_) (fun _ => ?_) <;> try (exfalso; omega))
        | (refine a64 (by omega) ?_)
        | (refine ix_at rfl (by omega) ?_)
        | (refine ⟨⟨rfl, by omega, by omega⟩, ?_⟩)
        | (refine map_at (by omega) ?_)
        | (refine alen ?_)
        | (refine amin ?_)
        | (refine amax ?_)
        | (refine ⟨⟨rfl, rfl, by simp [V.ments, mentsL]⟩, ?_⟩)
        | (refine map_at0 (by omega) ?_)
        | (refine set_at rfl ?_)
        | (refine map_atI (by omega) ?_)
        | (refine map_atI0 (by omega) ?_)
        | (refine set_atI rfl ?_)
        | (refine ⟨⟨by decide, rfl, by omega, by omega, by omega, by dsimp only; omega⟩, ?_⟩)
        | (refine arem (by omega) ?_)
        | (refine aquo (by omega) (by omega) ?_)
        | (refine au8 ?_)
        | (refine au64 (by omega) ?_)
        | (refine anat ?_)
        | (refine szOk rfl ?_)
        | (refine dvOk rfl (by omega) ?_)
        | (refine nzOk (by decide) ?_)
        | (refine lgOk (by kernel_rfl) ?_)
        | (refine kpOk (by kernel_rfl) ?_)
        | fail)
      all_goals conv => whnf
      exact hR
  | cons x l =>
    refine ac_body (ann []) [((997, 0), true), ((7, 0), false), ((9, 0), false)] hm htt Try.func147 rfl (by kernel_rfl) rfl rfl ?_
    repeat' ((conv => whnf); first
      | (refine appN (f := encRc) (m := x :: l) ⟨by decide, rfl, rfl, by simp, ⟨by simp at hl ⊢; omega, by simp at hl ⊢; omega⟩, rfl, by simp [mentsOne]⟩ ?_)
      | (refine bF_dec (fun _ => ?_) (fun _ => ?_) <;> try (exfalso; omega))
      | (refine bF_eq (fun _ => ?_) (fun _ => ?_) <;> try (exfalso; omega))
      | (refine bF_ne (fun _ => ?_) (fun _ => ?_) <;> try (exfalso; omega))
      | (refine a64 (by omega) ?_)
      | (refine ix_at rfl (by omega) ?_)
      | (refine ⟨⟨rfl, by omega, by omega⟩, ?_⟩)
      | (refine map_at (by omega) ?_)
      | (refine alen ?_)
      | (refine amin ?_)
      | (refine amax ?_)
      | (refine ⟨⟨rfl, rfl, by simp [V.ments, mentsL]⟩, ?_⟩)
      | (refine map_at0 (by omega) ?_)
      | (refine set_at rfl ?_)
      | (refine map_atI (by omega) ?_)
      | (refine map_atI0 (by omega) ?_)
      | (refine set_atI rfl ?_)
      | (refine ⟨⟨by decide, rfl, by omega, by omega, by omega, by dsimp only; omega⟩, ?_⟩)
      | (refine arem (by omega) ?_)
      | (refine aquo (by omega) (by omega) ?_)
      | (refine au8 ?_)
      | (refine au64 (by omega) ?_)
      | (refine anat ?_)
      | (refine szOk rfl ?_)
      | (refine dvOk rfl (by omega) ?_)
      | (refine nzOk (by decide) ?_)
      | (refine lgOk (by kernel_rfl) ?_)
      | (refine kpOk (by kernel_rfl) ?_)
      | fail)
    all_goals conv => whnf
    exact hR
abbrev bxN (b : Bx) : V := .agg [iv b.cap, iv b.aud, iv b.nx, iv b.gp, .ls (1, 0) 10 0 b.its.length, nilS]
theorem copyBxI.new (b : Bx) (h : BxF b) {K : V → List Obj → List Obj → Prop} (hN : b.rcs = [] → K (bxN b) [] [rowIt b.its]) (hR : K (bxL b) [] [rowIt b.its, rowRc b.rcs]) : AC Try.prog 62 [encBx b] [] K := by
  have h1 := h.2.1
  have h2 := h.2.2.1
  refine ac_body (ann []) [((997, 0), true), ((3, 0), true), ((4, 0), true), ((7, 0), false), ((10, 0), false)] hm htt Try.func62 rfl (by kernel_rfl) rfl rfl ?_
  repeat' ((conv => whnf); first
    | (refine itemsI.new b.its h1 h.2.2.2 ?_)
    | (refine cloneR.ac b.rcs (by omega) (fun hn => ?_) ?_)
    | (refine bF_dec (fun _ => ?_) (fun _ => ?_) <;> try (exfalso; omega))
    | (refine bF_eq (fun _ => ?_) (fun _ => ?_) <;> try (exfalso; omega))
    | (refine bF_ne (fun _ => ?_) (fun _ => ?_) <;> try (exfalso; omega))
    | (refine a64 (by omega) ?_)
    | (refine ix_at rfl (by omega) ?_)
    | (refine ⟨⟨rfl, by omega, by omega⟩, ?_⟩)
    | (refine map_at (by omega) ?_)
    | (refine alen ?_)
    | (refine amin ?_)
    | (refine amax ?_)
    | (refine ⟨⟨rfl, rfl, by simp [V.ments, mentsL]⟩, ?_⟩)
    | (refine map_at0 (by omega) ?_)
    | (refine set_at rfl ?_)
    | (refine map_atI (by omega) ?_)
    | (refine map_atI0 (by omega) ?_)
    | (refine set_atI rfl ?_)
    | (refine ⟨⟨by decide, rfl, by omega, by omega, by omega, by dsimp only; omega⟩, ?_⟩)
    | (refine arem (by omega) ?_)
    | (refine aquo (by omega) (by omega) ?_)
    | (refine au8 ?_)
    | (refine au64 (by omega) ?_)
    | (refine anat ?_)
    | (refine szOk rfl ?_)
    | (refine dvOk rfl (by omega) ?_)
    | (refine nzOk (by decide) ?_)
    | (refine lgOk (by kernel_rfl) ?_)
    | (refine kpOk (by kernel_rfl) ?_)
    | fail)
  all_goals conv => whnf
  · exact hN hn
  · exact hR
/-- What stands behind the pointer: a box, in new memory. -/
abbrev boR (b : Bx) (k l : Key) : Obj := .arr false 6 [.agg [iv b.cap, iv b.aud, iv b.nx, iv b.gp, .ls k 10 0 b.its.length, .ls l 3 0 b.rcs.length]]
abbrev boN (b : Bx) (k : Key) : Obj := .arr false 6 [.agg [iv b.cap, iv b.aud, iv b.nx, iv b.gp, .ls k 10 0 b.its.length, nilS]]
theorem putB_gap {b : Bx} {p : Pn} {r : Int} (h : ¬ ((b.its.length : Int) < b.cap ∧ (b.rcs.length : Int) < b.aud)) : putB b p r = ⟨b.cap, b.aud, b.nx, b.gp + 1, b.its, b.rcs⟩ := by unfold putB; rw [if_neg h]
theorem putB_room {b : Bx} {p : Pn} {r : Int} (h : (b.its.length : Int) < b.cap ∧ (b.rcs.length : Int) < b.aud) : putB b p r = ⟨b.cap, b.aud, b.nx + 1, b.gp, b.its ++ [⟨b.nx, r, p⟩], b.rcs ++ [⟨b.nx, r, p.l⟩]⟩ := by unfold putB; rw [if_pos h]
theorem putR.ac (b : Bx) (p : Pn) (r : Int) (hb : BxHd b) (hp : p.v.length ≤ 100000) {K : V → List Obj → List Obj → Prop}
    (hF : ∀ c : Bx, c = putB b p r → ¬ inB c → K (bv false) [boR c (0, 1) (0, 2), rowIt c.its, rowRc c.rcs] [] ∧ K (bv false) [boR c (1, 0) (1, 1), .dead, .dead] [rowIt c.its, rowRc c.rcs])
    (hG : ∀ c : Bx, c = putB b p r → inB c → K (bv true) [boR c (0, 1) (0, 2), rowIt c.its, rowRc c.rcs] [])
    (hP : ∀ c : Bx, c = putB b p r → inB c → K (bv true) [boR c (1, 0) (1, 1), .dead, .dead] [rowIt c.its, rowRc c.rcs]) : AC Try.prog 83 [.lp (0, 0) 6 0 0, encPn p, iv r] [boR b (0, 1) (0, 2), rowIt b.its, rowRc b.rcs] K := by
  unfold BxHd at hb
  refine ac_body (ann []) [((997, 0), true), ((0, 0), true), ((0, 1), false), ((0, 2), false), ((6, 0), true), ((56, 0), true), ((57, 0), false), ((73, 0), true), ((74, 0), false)] hm htt Try.func83 rfl (by kernel_rfl) rfl rfl ?_
  repeat' ((conv => whnf); first
    | (refine copyPnI.ac p hp ?_)
    | (refine app1 (f := encIt) (x := ⟨b.nx, r, p⟩) ⟨by decide, rfl, rfl, by simp, ⟨by simp; omega, by simp; omega⟩, rfl, by simp [mentsOne]⟩ rfl ?_)
    | (refine app1 (f := encRc) (x := ⟨b.nx, r, p.l⟩) ⟨by decide, rfl, rfl, by simp, ⟨by simp; omega, by simp; omega⟩, rfl, by simp [mentsOne]⟩ rfl ?_)
    | (refine bF_dec (fun _ => ?_) (fun _ => ?_) <;> try (exfalso; omega))
    | (refine bF_eq (fun _ => ?_) (fun _ => ?_) <;> try (exfalso; omega))
    | (refine bF_ne (fun _ => ?_) (fun _ => ?_) <;> try (exfalso; omega))
    | (refine a64 (by omega) ?_)
    | (refine ix_at rfl (by omega) ?_)
    | (refine ⟨⟨rfl, by omega, by omega⟩, ?_⟩)
    | (refine map_at (by omega) ?_)
    | (refine alen ?_)
    | (refine amin ?_)
    | (refine amax ?_)
    | (refine ⟨⟨rfl, rfl, by simp [V.ments, mentsL]⟩, ?_⟩)
    | (refine map_at0 (by omega) ?_)
    | (refine set_at rfl ?_)
    | (refine map_atI (by omega) ?_)
    | (refine map_atI0 (by omega) ?_)
    | (refine set_atI rfl ?_)
    | (refine ⟨⟨by decide, rfl, by omega, by omega, by omega, by dsimp only; omega⟩, ?_⟩)
    | (refine arem (by omega) ?_)
    | (refine aquo (by omega) (by omega) ?_)
    | (refine au8 ?_)
    | (refine au64 (by omega) ?_)
    | (refine anat ?_)
    | (refine szOk rfl ?_)
    | (refine dvOk rfl (by omega) ?_)
    | (refine nzOk (by decide) ?_)
    | (refine lgOk (by kernel_rfl) ?_)
    | (refine kpOk (by kernel_rfl) ?_)
    | fail)
  all_goals conv => whnf
  all_goals first
    | exact hG _ (putB_gap (by omega)).symm (by unfold inB; dsimp only; omega)
    | exact (hF _ (putB_gap (by omega)).symm (by unfold inB; dsimp only; omega)).1
    | exact hP _ (putB_room (by omega)).symm (by unfold inB; dsimp only; omega)
    | exact (hF _ (putB_room (by omega)).symm (by unfold inB; dsimp only; omega)).2
    | trace_state
theorem putN.ac (b : Bx) (p : Pn) (r : Int) (hb : BxHd b) (hn : b.rcs = []) (hp : p.v.length ≤ 100000) {K : V → List Obj → List Obj → Prop}
    (hF : ∀ c : Bx, c = putB b p r → ¬ inB c → K (bv false) [boN c (0, 1), rowIt c.its] [] ∧ K (bv false) [boR c (1, 0) (1, 1), .dead] [rowIt c.its, rowRc c.rcs])
    (hG : ∀ c : Bx, c = putB b p r → inB c → c.rcs = [] → K (bv true) [boN c (0, 1), rowIt c.its] [])
    (hP : ∀ c : Bx, c = putB b p r → inB c → K (bv true) [boR c (1, 0) (1, 1), .dead] [rowIt c.its, rowRc c.rcs]) : AC Try.prog 83 [.lp (0, 0) 6 0 0, encPn p, iv r] [boN b (0, 1), rowIt b.its] K := by
  have hrl : b.rcs.length = 0 := by rw [hn]; rfl
  have hroom : ((b.its.length : Int) < b.cap ∧ (b.rcs.length : Int) < b.aud) → putB b p r = ⟨b.cap, b.aud, b.nx + 1, b.gp, b.its ++ [⟨b.nx, r, p⟩], [⟨b.nx, r, p.l⟩]⟩ := fun h => by rw [putB_room h, hn]; rfl
  unfold BxHd at hb
  refine ac_body (ann []) [((997, 0), true), ((0, 0), true), ((0, 1), false), ((6, 0), true), ((56, 0), true), ((57, 0), false), ((73, 0), true), ((74, 0), false)] hm htt Try.func83 rfl (by kernel_rfl) rfl rfl ?_
  repeat' ((conv => whnf); first
    | (refine copyPnI.ac p hp ?_)
    | (refine app1 (f := encIt) (x := ⟨b.nx, r, p⟩) ⟨by decide, rfl, rfl, by simp, ⟨by simp; omega, by simp; omega⟩, rfl, by simp [mentsOne]⟩ rfl ?_)
    | (refine app01 (f := encRc) (x := ⟨b.nx, r, p.l⟩) ⟨by decide, ⟨by simp, by simp⟩, rfl⟩ rfl ?_)
    | (refine bF_dec (fun _ => ?_) (fun _ => ?_) <;> try (exfalso; omega))
    | (refine bF_eq (fun _ => ?_) (fun _ => ?_) <;> try (exfalso; omega))
    | (refine bF_ne (fun _ => ?_) (fun _ => ?_) <;> try (exfalso; omega))
    | (refine a64 (by omega) ?_)
    | (refine ix_at rfl (by omega) ?_)
    | (refine ⟨⟨rfl, by omega, by omega⟩, ?_⟩)
    | (refine map_at (by omega) ?_)
    | (refine alen ?_)
    | (refine amin ?_)
    | (refine amax ?_)
    | (refine ⟨⟨rfl, rfl, by simp [V.ments, mentsL]⟩, ?_⟩)
    | (refine map_at0 (by omega) ?_)
    | (refine set_at rfl ?_)
    | (refine map_atI (by omega) ?_)
    | (refine map_atI0 (by omega) ?_)
    | (refine set_atI rfl ?_)
    | (refine ⟨⟨by decide, rfl, by omega, by omega, by omega, by dsimp only; omega⟩, ?_⟩)
    | (refine arem (by omega) ?_)
    | (refine aquo (by omega) (by omega) ?_)
    | (refine au8 ?_)
    | (refine au64 (by omega) ?_)
    | (refine anat ?_)
    | (refine szOk rfl ?_)
    | (refine dvOk rfl (by omega) ?_)
    | (refine nzOk (by decide) ?_)
    | (refine lgOk (by kernel_rfl) ?_)
    | (refine kpOk (by kernel_rfl) ?_)
    | fail)
  all_goals conv => whnf
  all_goals first
    | exact hG _ (putB_gap (by omega)).symm (by unfold inB; dsimp only; omega) hn
    | exact (hF _ (putB_gap (by omega)).symm (by unfold inB; dsimp only; omega)).1
    | exact hP _ (hroom (by omega)).symm (by unfold inB; dsimp only; omega)
    | exact (hF _ (hroom (by omega)).symm (by unfold inB; dsimp only; omega)).2
    | trace_state
end Go.Eng.T
