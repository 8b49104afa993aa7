import Derived.Test.YtpfmaiiolifblaaXSrA
namespace Go.Eng.T
open Go.Proofs Go.Eng
set_option maxRecDepth 100000
set_option maxHeartbeats 0

theorem sort_one (l : List Pn) (h : l.length ≤ 1) : pnSort (l.take 1) ++ l.drop 1 = l := by
  match l, h with
  | [], _ => rfl
  | [x], _ => rfl
theorem insertion.ac (l : List Pn) (hl : l.length ≤ 1000) {K : V → List Obj → List Obj → Prop} (hK : K (.tup []) [rowP (pnSort l)] []) : AC Try.prog 231 [.ls (0, 0) 8 0 l.length, iv 0, iv l.length, .fn 130 []] [rowP l] K := by
  have hK' : ∀ Y, Y = pnSort l → K (.tup []) [rowP Y] [] := by rintro _ rfl; exact hK
  refine ac_body (ann [(1, [0, 1, 2, 3, 8], [(0, 0)]), (4, [0, 1, 2, 3, 8, 9], [(0, 0)])]) [((997, 0), true), ((0, 0), false)] hm htt Try.func231 rfl (by kernel_rfl) rfl rfl ?_
  repeat' ((conv => whnf); first
    | (refine bF_dec (fun _ => ?_) (fun _ => ?_) <;> try (exfalso; omega))
    | (refine bF_eq (fun _ => ?_) (fun _ => ?_) <;> try (exfalso; omega))
    | (refine bF_ne (fun _ => ?_) (fun _ => ?_) <;> try (exfalso; omega))
    | (refine a64 (by omega) ?_)
    | (refine ix_at rfl (by omega) ?_)
    | (refine ⟨⟨rfl, by omega, by omega⟩, ?_⟩)
    | (refine map_at (by omega) ?_)
    | (refine alen ?_)
    | (refine amin ?_)
    | (refine amax ?_)
    | (refine ⟨⟨rfl, rfl, by simp [V.ments, mentsL]⟩, ?_⟩)
    | (refine map_at0 (by omega) ?_)
    | (refine set_at rfl ?_)
    | (refine map_atI (by omega) ?_)
    | (refine map_atI0 (by omega) ?_)
    | (refine set_atI rfl ?_)
    | (refine ⟨⟨by decide, rfl, by omega, by omega, by omega, by dsimp only; omega⟩, ?_⟩)
    | (refine arem (by omega) ?_)
    | (refine aquo (by omega) (by omega) ?_)
    | (refine au8 ?_)
    | (refine au64 (by omega) ?_)
    | (refine anat ?_)
    | (refine szOk rfl ?_)
    | (refine dvOk rfl (by omega) ?_)
    | (refine nzOk (by decide) ?_)
    | (refine lgOk (by kernel_rfl) ?_)
    | (refine kpOk (by kernel_rfl) ?_)
    | fail)
  all_goals conv => whnf
  refine cwF_loop (fun m st => ∃ (i : Nat) (Y : List Pn), (m = l.length + 1 - i ∧ 1 ≤ i ∧ (i ≤ l.length ∨ l.length = 0 ∧ i = 1) ∧ Y = pnSort (l.take i) ++ l.drop i ∧ Y.length = l.length) ∧
    st = ⟨[.ls (0, 0) 8 0 l.length, iv 0, iv l.length, .fn 130 [], .un, .un, .un, .un, iv i] ++ List.replicate 44 .un, mkOb [((0, 0), some (rowP Y))]⟩) l.length (by kernel_rfl) ?_ ?_
  · refine ⟨1, l, ⟨by omega, by omega, by omega, ?_, rfl⟩, rfl⟩
    match l with
    | [] => rfl
    | x :: l' => rfl
  rintro m st ⟨i, Y, ⟨rfl, i1, hi, hY, hYl⟩, rfl⟩
  have hYm : (Y.map encPn).length = l.length := by rw [List.length_map, hYl]
  by_cases hil : i < l.length
  · have hs := sort_len (l := l) (i := i) (by omega)
    repeat' ((conv => whnf); first
      | (refine bF_dec (fun _ => ?_) (fun _ => ?_) <;> try (exfalso; omega))
      | (refine bF_eq (fun _ => ?_) (fun _ => ?_) <;> try (exfalso; omega))
      | (refine bF_ne (fun _ => ?_) (fun _ => ?_) <;> try (exfalso; omega))
      | (refine a64 (by omega) ?_)
      | (refine ix_at rfl (by omega) ?_)
      | (refine ⟨⟨rfl, by omega, by omega⟩, ?_⟩)
      | (refine map_at (by omega) ?_)
      | (refine alen ?_)
      | (refine amin ?_)
      | (refine amax ?_)
      | (refine ⟨⟨rfl, rfl, by simp [V.ments, mentsL]⟩, ?_⟩)
      | (refine map_at0 (by omega) ?_)
      | (refine set_at rfl ?_)
      | (refine map_atI (by omega) ?_)
      | (refine map_atI0 (by omega) ?_)
      | (refine set_atI rfl ?_)
      | (refine ⟨⟨by decide, rfl, by omega, by omega, by omega, by dsimp only; omega⟩, ?_⟩)
      | (refine arem (by omega) ?_)
      | (refine aquo (by omega) (by omega) ?_)
      | (refine au8 ?_)
      | (refine au64 (by omega) ?_)
      | (refine anat ?_)
      | (refine szOk rfl ?_)
      | (refine dvOk rfl (by omega) ?_)
      | (refine nzOk (by decide) ?_)
      | (refine lgOk (by kernel_rfl) ?_)
      | (refine kpOk (by kernel_rfl) ?_)
      | fail)
    all_goals conv => whnf
    refine cwF_loop (fun m st => ∃ (z : Int) (Y : List Pn), (m = z.toNat ∧ 0 ≤ z ∧ z ≤ i ∧ pnAt (l.getD i default) (pnSort (l.take i)) i = pnAt (l.getD i default) (pnSort (l.take i)) z.toNat ∧ Y = insAt (pnSort (l.take i)) (l.getD i default) z.toNat ++ l.drop (i + 1) ∧ Y.length = l.length) ∧
      st = ⟨[.ls (0, 0) 8 0 l.length, iv 0, iv l.length, .fn 130 [], .un, .un, .un, .un, iv i, iv z] ++ List.replicate 43 .un, mkOb [((0, 0), some (rowP Y))]⟩) i (by kernel_rfl) ⟨i, Y, ⟨by omega, by omega, by omega, by rw [Int.toNat_natCast], by rw [hY, round_start hil, hs, Int.toNat_natCast], hYl⟩, rfl⟩ ?_
    rintro m st ⟨z, Y, ⟨hmz, z0, z1, hat, hY, hYl⟩, rfl⟩
    have hYm : (Y.map encPn).length = l.length := by rw [List.length_map, hYl]
    have e1 : (z - 1).toNat = z.toNat - 1 := by omega
    by_cases hz0 : z = 0
    · subst hz0
      repeat' ((conv => whnf); first
        | (refine bF_dec (fun _ => ?_) (fun _ => ?_) <;> try (exfalso; omega))
        | (refine bF_eq (fun _ => ?_) (fun _ => ?_) <;> try (exfalso; omega))
        | (refine bF_ne (fun _ => ?_) (fun _ => ?_) <;> try (exfalso; omega))
        | (refine a64 (by omega) ?_)
        | (refine ix_at rfl (by omega) ?_)
        | (refine ⟨⟨rfl, by omega, by omega⟩, ?_⟩)
        | (refine map_at (by omega) ?_)
        | (refine alen ?_)
        | (refine amin ?_)
        | (refine amax ?_)
        | (refine ⟨⟨rfl, rfl, by simp [V.ments, mentsL]⟩, ?_⟩)
        | (refine map_at0 (by omega) ?_)
        | (refine set_at rfl ?_)
        | (refine map_atI (by omega) ?_)
        | (refine map_atI0 (by omega) ?_)
        | (refine set_atI rfl ?_)
        | (refine ⟨⟨by decide, rfl, by omega, by omega, by omega, by dsimp only; omega⟩, ?_⟩)
        | (refine arem (by omega) ?_)
        | (refine aquo (by omega) (by omega) ?_)
        | (refine au8 ?_)
        | (refine au64 (by omega) ?_)
        | (refine anat ?_)
        | (refine szOk rfl ?_)
        | (refine dvOk rfl (by omega) ?_)
        | (refine nzOk (by decide) ?_)
        | (refine lgOk (by kernel_rfl) ?_)
        | (refine kpOk (by kernel_rfl) ?_)
        | fail)
      all_goals conv => whnf
      refine ⟨l.length + 1 - (i + 1), by omega, i + 1, Y, ⟨rfl, by omega, by omega, ?_, hYl⟩, rfl⟩
      rw [hY, round_end hil (by rw [hs, hat]; rfl)]
    · obtain ⟨g1, g2, g3⟩ := ins_step (S := pnSort (l.take i)) (R := l.drop (i + 1)) (x := l.getD i default) (j := z.toNat) (by omega) (by omega)
      rw [← hY] at g1 g2 g3
      repeat' ((conv => whnf); first
        | (refine cmpP.ac (Y.getD (0 + z.toNat) default) (Y.getD (0 + (z - 1).toNat) default) fun c hc => ?_)
        | (refine set_atI (f := encPn) (L := Y) (x := Y.getD (0 + (z - 1).toNat) default) rfl ?_)
        | (refine set_atI (f := encPn) (x := Y.getD (0 + z.toNat) default) rfl ?_)
        | (refine map_atI0 (f := encPn) (l := Y.set z.toNat (Y.getD (0 + (z - 1).toNat) default)) (by rw [List.length_set]; omega) ?_)
        | (refine bF_dec (fun _ => ?_) (fun _ => ?_) <;> try (exfalso; omega))
        | (refine bF_eq (fun _ => ?_) (fun _ => ?_) <;> try (exfalso; omega))
        | (refine bF_ne (fun _ => ?_) (fun _ => ?_) <;> try (exfalso; omega))
        | (refine a64 (by omega) ?_)
        | (refine ix_at rfl (by omega) ?_)
        | (refine ⟨⟨rfl, by omega, by omega⟩, ?_⟩)
        | (refine map_at (by omega) ?_)
        | (refine alen ?_)
        | (refine amin ?_)
        | (refine amax ?_)
        | (refine ⟨⟨rfl, rfl, by simp [V.ments, mentsL]⟩, ?_⟩)
        | (refine map_at0 (by omega) ?_)
        | (refine set_at rfl ?_)
        | (refine map_atI (by omega) ?_)
        | (refine map_atI0 (by omega) ?_)
        | (refine set_atI rfl ?_)
        | (refine ⟨⟨by decide, rfl, by omega, by omega, by omega, by dsimp only; omega⟩, ?_⟩)
        | (refine arem (by omega) ?_)
        | (refine aquo (by omega) (by omega) ?_)
        | (refine au8 ?_)
        | (refine au64 (by omega) ?_)
        | (refine anat ?_)
        | (refine szOk rfl ?_)
        | (refine dvOk rfl (by omega) ?_)
        | (refine nzOk (by decide) ?_)
        | (refine lgOk (by kernel_rfl) ?_)
        | (refine kpOk (by kernel_rfl) ?_)
        | fail)
      all_goals conv => whnf
      · rename_i c1 c2
        refine ⟨(z - 1).toNat, by omega, z - 1, _, ⟨rfl, by omega, by omega, ?_, ?_, ?_⟩, rfl⟩
        · rw [Nat.zero_add, Nat.zero_add, e1, g1, g2] at hc
          rw [hat, e1, at_step (by omega) (hc.1 c2)]
        · rw [Nat.zero_add, Nat.zero_add, e1, g1, g2]
          exact g3
        · rw [List.length_set, List.length_set]; exact hYl
      · rename_i c1 c2
        rw [Nat.zero_add, Nat.zero_add, e1, g1, g2] at hc
        refine ⟨l.length + 1 - (i + 1), by omega, i + 1, Y, ⟨rfl, by omega, by omega, ?_, hYl⟩, rfl⟩
        have hstop := at_stop (x := l.getD i default) (S := pnSort (l.take i)) (j := z.toNat) (.inr (by
          cases hb : pnLt (l.getD i default) ((pnSort (l.take i)).getD (z.toNat - 1) default) with
          | false => rfl
          | true => exact absurd (hc.2 hb) c2))
        rw [hY, round_end hil (by rw [hs, hat, hstop])]
  · repeat' ((conv => whnf); first
      | (refine bF_dec (fun _ => ?_) (fun _ => ?_) <;> try (exfalso; omega))
      | (refine bF_eq (fun _ => ?_) (fun _ => ?_) <;> try (exfalso; omega))
      | (refine bF_ne (fun _ => ?_) (fun _ => ?_) <;> try (exfalso; omega))
      | (refine a64 (by omega) ?_)
      | (refine ix_at rfl (by omega) ?_)
      | (refine ⟨⟨rfl, by omega, by omega⟩, ?_⟩)
      | (refine map_at (by omega) ?_)
      | (refine alen ?_)
      | (refine amin ?_)
      | (refine amax ?_)
      | (refine ⟨⟨rfl, rfl, by simp [V.ments, mentsL]⟩, ?_⟩)
      | (refine map_at0 (by omega) ?_)
      | (refine set_at rfl ?_)
      | (refine map_atI (by omega) ?_)
      | (refine map_atI0 (by omega) ?_)
      | (refine set_atI rfl ?_)
      | (refine ⟨⟨by decide, rfl, by omega, by omega, by omega, by dsimp only; omega⟩, ?_⟩)
      | (refine arem (by omega) ?_)
      | (refine aquo (by omega) (by omega) ?_)
      | (refine au8 ?_)
      | (refine au64 (by omega) ?_)
      | (refine anat ?_)
      | (refine szOk rfl ?_)
      | (refine dvOk rfl (by omega) ?_)
      | (refine nzOk (by decide) ?_)
      | (refine lgOk (by kernel_rfl) ?_)
      | (refine kpOk (by kernel_rfl) ?_)
      | fail)
    all_goals conv => whnf
    exact hK' _ (by
      rw [hY, List.drop_eq_nil_of_le (by omega), List.append_nil, List.take_of_length_le (by omega)])
theorem stable.ac (l : List Pn) (hl : l.length ≤ 19) {K : V → List Obj → List Obj → Prop} (hK : K (.tup []) [rowP (pnSort l)] []) : AC Try.prog 193 [.ls (0, 0) 8 0 l.length, iv l.length, .fn 130 []] [rowP l] K := by
  refine ac_body (ann [(2, [0, 1, 2, 6, 7, 8], [(0, 0)]), (7, [0, 1, 2, 6], [(0, 0)]), (9, [0, 1, 2, 6, 7, 8], [(0, 0)])]) [((997, 0), true), ((0, 0), false)] hm htt Try.func193 rfl (by kernel_rfl) rfl rfl ?_
  repeat' ((conv => whnf); first
    | (refine bF_dec (fun _ => ?_) (fun _ => ?_) <;> try (exfalso; omega))
    | (refine bF_eq (fun _ => ?_) (fun _ => ?_) <;> try (exfalso; omega))
    | (refine bF_ne (fun _ => ?_) (fun _ => ?_) <;> try (exfalso; omega))
    | (refine a64 (by omega) ?_)
    | (refine ix_at rfl (by omega) ?_)
    | (refine ⟨⟨rfl, by omega, by omega⟩, ?_⟩)
    | (refine map_at (by omega) ?_)
    | (refine alen ?_)
    | (refine amin ?_)
    | (refine amax ?_)
    | (refine ⟨⟨rfl, rfl, by simp [V.ments, mentsL]⟩, ?_⟩)
    | (refine map_at0 (by omega) ?_)
    | (refine set_at rfl ?_)
    | (refine map_atI (by omega) ?_)
    | (refine map_atI0 (by omega) ?_)
    | (refine set_atI rfl ?_)
    | (refine ⟨⟨by decide, rfl, by omega, by omega, by omega, by dsimp only; omega⟩, ?_⟩)
    | (refine arem (by omega) ?_)
    | (refine aquo (by omega) (by omega) ?_)
    | (refine au8 ?_)
    | (refine au64 (by omega) ?_)
    | (refine anat ?_)
    | (refine szOk rfl ?_)
    | (refine dvOk rfl (by omega) ?_)
    | (refine nzOk (by decide) ?_)
    | (refine lgOk (by kernel_rfl) ?_)
    | (refine kpOk (by kernel_rfl) ?_)
    | fail)
  all_goals conv => whnf
  refine cwF_loop (fun m st => m = 0 ∧ st = ⟨[.ls (0, 0) 8 0 l.length, iv l.length, .fn 130 [], .un, .un, .un, iv 20, iv 0, iv 20] ++ List.replicate 54 .un, mkOb [((0, 0), some (rowP l))]⟩) 0 (by kernel_rfl) ⟨rfl, rfl⟩ ?_
  rintro m st ⟨rfl, rfl⟩
  repeat' ((conv => whnf); first
    | (refine insertion.ac l (by omega) ?_)
    | (refine bF_dec (fun _ => ?_) (fun _ => ?_) <;> try (exfalso; omega))
    | (refine bF_eq (fun _ => ?_) (fun _ => ?_) <;> try (exfalso; omega))
    | (refine bF_ne (fun _ => ?_) (fun _ => ?_) <;> try (exfalso; omega))
    | (refine a64 (by omega) ?_)
    | (refine ix_at rfl (by omega) ?_)
    | (refine ⟨⟨rfl, by omega, by omega⟩, ?_⟩)
    | (refine map_at (by omega) ?_)
    | (refine alen ?_)
    | (refine amin ?_)
    | (refine amax ?_)
    | (refine ⟨⟨rfl, rfl, by simp [V.ments, mentsL]⟩, ?_⟩)
    | (refine map_at0 (by omega) ?_)
    | (refine set_at rfl ?_)
    | (refine map_atI (by omega) ?_)
    | (refine map_atI0 (by omega) ?_)
    | (refine set_atI rfl ?_)
    | (refine ⟨⟨by decide, rfl, by omega, by omega, by omega, by dsimp only; omega⟩, ?_⟩)
    | (refine arem (by omega) ?_)
    | (refine aquo (by omega) (by omega) ?_)
    | (refine au8 ?_)
    | (refine au64 (by omega) ?_)
    | (refine anat ?_)
    | (refine szOk rfl ?_)
    | (refine dvOk rfl (by omega) ?_)
    | (refine nzOk (by decide) ?_)
    | (refine lgOk (by kernel_rfl) ?_)
    | (refine kpOk (by kernel_rfl) ?_)
    | fail)
  all_goals conv => whnf
  refine cwF_loop (fun m st => m = 0 ∧ st = ⟨[.ls (0, 0) 8 0 l.length, iv l.length, .fn 130 [], .un, .un, .un, iv 20] ++ List.replicate 56 .un, mkOb [((0, 0), some (rowP (pnSort l)))]⟩) 0 (by kernel_rfl) ⟨rfl, rfl⟩ ?_
  rintro m st ⟨rfl, rfl⟩
  repeat' ((conv => whnf); first
    | (refine bF_dec (fun _ => ?_) (fun _ => ?_) <;> try (exfalso; omega))
    | (refine bF_eq (fun _ => ?_) (fun _ => ?_) <;> try (exfalso; omega))
    | (refine bF_ne (fun _ => ?_) (fun _ => ?_) <;> try (exfalso; omega))
    | (refine a64 (by omega) ?_)
    | (refine ix_at rfl (by omega) ?_)
    | (refine ⟨⟨rfl, by omega, by omega⟩, ?_⟩)
    | (refine map_at (by omega) ?_)
    | (refine alen ?_)
    | (refine amin ?_)
    | (refine amax ?_)
    | (refine ⟨⟨rfl, rfl, by simp [V.ments, mentsL]⟩, ?_⟩)
    | (refine map_at0 (by omega) ?_)
    | (refine set_at rfl ?_)
    | (refine map_atI (by omega) ?_)
    | (refine map_atI0 (by omega) ?_)
    | (refine set_atI rfl ?_)
    | (refine ⟨⟨by decide, rfl, by omega, by omega, by omega, by dsimp only; omega⟩, ?_⟩)
    | (refine arem (by omega) ?_)
    | (refine aquo (by omega) (by omega) ?_)
    | (refine au8 ?_)
    | (refine au64 (by omega) ?_)
    | (refine anat ?_)
    | (refine szOk rfl ?_)
    | (refine dvOk rfl (by omega) ?_)
    | (refine nzOk (by decide) ?_)
    | (refine lgOk (by kernel_rfl) ?_)
    | (refine kpOk (by kernel_rfl) ?_)
    | fail)
  all_goals conv => whnf
  exact hK
theorem sortStable.ac (l : List Pn) (hl : l.length ≤ 19) {K : V → List Obj → List Obj → Prop} (hK : K (.tup []) [rowP (pnSort l)] []) : AC Try.prog 129 [.ls (0, 0) 8 0 l.length, .fn 130 []] [rowP l] K := by
  refine ac_body (ann []) [((997, 0), true), ((0, 0), false)] hm htt Try.func129 rfl (by kernel_rfl) rfl rfl ?_
  repeat' ((conv => whnf); first
    | (refine stable.ac l hl ?_)
    | (refine bF_dec (fun _ => ?_) (fun _ => ?_) <;> try (exfalso; omega))
    | (refine bF_eq (fun _ => ?_) (fun _ => ?_) <;> try (exfalso; omega))
    | (refine bF_ne (fun _ => ?_) (fun _ => ?_) <;> try (exfalso; omega))
    | (refine a64 (by omega) ?_)
    | (refine ix_at rfl (by omega) ?_)
    | (refine ⟨⟨rfl, by omega, by omega⟩, ?_⟩)
    | (refine map_at (by omega) ?_)
    | (refine alen ?_)
    | (refine amin ?_)
    | (refine amax ?_)
    | (refine ⟨⟨rfl, rfl, by simp [V.ments, mentsL]⟩, ?_⟩)
    | (refine map_at0 (by omega) ?_)
    | (refine set_at rfl ?_)
    | (refine map_atI (by omega) ?_)
    | (refine map_atI0 (by omega) ?_)
    | (refine set_atI rfl ?_)
    | (refine ⟨⟨by decide, rfl, by omega, by omega, by omega, by dsimp only; omega⟩, ?_⟩)
    | (refine arem (by omega) ?_)
    | (refine aquo (by omega) (by omega) ?_)
    | (refine au8 ?_)
    | (refine au64 (by omega) ?_)
    | (refine anat ?_)
    | (refine szOk rfl ?_)
    | (refine dvOk rfl (by omega) ?_)
    | (refine nzOk (by decide) ?_)
    | (refine lgOk (by kernel_rfl) ?_)
    | (refine kpOk (by kernel_rfl) ?_)
    | fail)
  all_goals conv => whnf
  exact hK
theorem sortI.ac (l : List Pn) (hl : l.length ≤ 19) (hv : ∀ p ∈ l, p.v.length ≤ 100000) {K : V → List Obj → List Obj → Prop} (hK : K (.is 8 ((pnSort l).map encPn)) [] []) : AC Try.prog 47 [.is 8 (l.map encPn)] [] K := by
  refine AC.frz ?_
  have hsl : (pnSort l).length = l.length := pnSort_length l
  have key : ∃ v' news' n es, [rowP (pnSort l)] = news' ++ [.arr true n es] ∧ LendR (1, news'.length) n es (.ls (1, 0) 8 0 l.length) v' ∧ (∀ x ∈ ([] : List Obj) ++ news', (1, news'.length) ∉ x.ments) ∧ K v' [] news' := by
    have := frz1 (f := encPn) (l := pnSort l) (n := 8) (objs := []) (K := K) (by simp) hK
    rwa [hsl] at this
  refine ac_body (annW [] [(3, [3, 7, 8, 9], [(8, 1)])] [(3, (8, 1), [8, 19])]) [((997, 0), true), ((8, 0), false), ((8, 1), false), ((7, 0), true), ((18, 0), true), ((19, 0), false)] hm htt Try.func47 rfl (by kernel_rfl) rfl rfl ?_
  repeat' ((conv => whnf); first
    | (refine bF_dec (fun _ => ?_) (fun _ => ?_) <;> try (exfalso; omega))
    | (refine bF_eq (fun _ => ?_) (fun _ => ?_) <;> try (exfalso; omega))
    | (refine bF_ne (fun _ => ?_) (fun _ => ?_) <;> try (exfalso; omega))
    | (refine a64 (by omega) ?_)
    | (refine ix_at rfl (by omega) ?_)
    | (refine ⟨⟨rfl, by omega, by omega⟩, ?_⟩)
    | (refine map_at (by omega) ?_)
    | (refine alen ?_)
    | (refine amin ?_)
    | (refine amax ?_)
    | (refine ⟨⟨rfl, rfl, by simp [V.ments, mentsL]⟩, ?_⟩)
    | (refine map_at0 (by omega) ?_)
    | (refine set_at rfl ?_)
    | (refine map_atI (by omega) ?_)
    | (refine map_atI0 (by omega) ?_)
    | (refine set_atI rfl ?_)
    | (refine ⟨⟨by decide, rfl, by omega, by omega, by omega, by dsimp only; omega⟩, ?_⟩)
    | (refine arem (by omega) ?_)
    | (refine aquo (by omega) (by omega) ?_)
    | (refine au8 ?_)
    | (refine au64 (by omega) ?_)
    | (refine anat ?_)
    | (refine szOk rfl ?_)
    | (refine dvOk rfl (by omega) ?_)
    | (refine nzOk (by decide) ?_)
    | (refine lgOk (by kernel_rfl) ?_)
    | (refine kpOk (by kernel_rfl) ?_)
    | fail)
  all_goals conv => whnf
  refine cwF_loop (fun m st => ∃ (i : Nat) (o : List Pn), (m = l.length - i ∧ i ≤ l.length ∧ o = l.take i) ∧
    st = ⟨[.un, .un, .un, .ls (8, 1) 8 0 o.length, .un, .un, .un, .is 8 (l.map encPn), iv l.length, iv i] ++ List.replicate 12 .un, mkOb [((8, 1), some (rowP o))]⟩) l.length (by kernel_rfl) ⟨0, [], ⟨rfl, by omega, rfl⟩, rfl⟩ ?_
  rintro m st ⟨i, o, ⟨rfl, hi, ho⟩, rfl⟩
  have hol : o.length ≤ 1000 := by rw [ho, List.length_take]; omega
  have hgv : (l.getD i default).v.length ≤ 100000 := by
    by_cases h : i < l.length
    · rw [List.getD_eq_getElem?_getD, List.getElem?_eq_getElem h]; exact hv _ (List.getElem_mem h)
    · rw [List.getD_eq_getElem?_getD, List.getElem?_eq_none (by omega)]; exact Nat.zero_le _
  by_cases hil : i < l.length
  · repeat' ((conv => whnf); first
      | (refine copyPnI.ac (l.getD i default) hgv ?_)
      | (refine app1 (f := encPn) (x := l.getD i default) ⟨by decide, rfl, rfl, by simp, ⟨by simp; omega, by simp; omega⟩, rfl, by simp [mentsOne]⟩ rfl ?_)
      | (refine bF_dec (fun _ => ?_) (fun _ => ?_) <;> try (exfalso; omega))
      | (refine bF_eq (fun _ => ?_) (fun _ => ?_) <;> try (exfalso; omega))
      | (refine bF_ne (fun _ => ?_) (fun _ => ?_) <;> try (exfalso; omega))
      | (refine a64 (by omega) ?_)
      | (refine ix_at rfl (by omega) ?_)
      | (refine ⟨⟨rfl, by omega, by omega⟩, ?_⟩)
      | (refine map_at (by omega) ?_)
      | (refine alen ?_)
      | (refine amin ?_)
      | (refine amax ?_)
      | (refine ⟨⟨rfl, rfl, by simp [V.ments, mentsL]⟩, ?_⟩)
      | (refine map_at0 (by omega) ?_)
      | (refine set_at rfl ?_)
      | (refine map_atI (by omega) ?_)
      | (refine map_atI0 (by omega) ?_)
      | (refine set_atI rfl ?_)
      | (refine ⟨⟨by decide, rfl, by omega, by omega, by omega, by dsimp only; omega⟩, ?_⟩)
      | (refine arem (by omega) ?_)
      | (refine aquo (by omega) (by omega) ?_)
      | (refine au8 ?_)
      | (refine au64 (by omega) ?_)
      | (refine anat ?_)
      | (refine szOk rfl ?_)
      | (refine dvOk rfl (by omega) ?_)
      | (refine nzOk (by decide) ?_)
      | (refine lgOk (by kernel_rfl) ?_)
      | (refine kpOk (by kernel_rfl) ?_)
      | fail)
    all_goals conv => whnf
    exact ⟨l.length - (i + 1), by omega, i + 1, _, ⟨rfl, by omega, by rw [ho, take_succD (by omega)]⟩, rfl⟩
  · have : o = l := by rw [ho, List.take_of_length_le (by omega)]
    subst this
    repeat' ((conv => whnf); first
      | (refine sortStable.ac o hl ?_)
      | (refine bF_dec (fun _ => ?_) (fun _ => ?_) <;> try (exfalso; omega))
      | (refine bF_eq (fun _ => ?_) (fun _ => ?_) <;> try (exfalso; omega))
      | (refine bF_ne (fun _ => ?_) (fun _ => ?_) <;> try (exfalso; omega))
      | (refine a64 (by omega) ?_)
      | (refine ix_at rfl (by omega) ?_)
      | (refine ⟨⟨rfl, by omega, by omega⟩, ?_⟩)
      | (refine map_at (by omega) ?_)
      | (refine alen ?_)
      | (refine amin ?_)
      | (refine amax ?_)
      | (refine ⟨⟨rfl, rfl, by simp [V.ments, mentsL]⟩, ?_⟩)
      | (refine map_at0 (by omega) ?_)
      | (refine set_at rfl ?_)
      | (refine map_atI (by omega) ?_)
      | (refine map_atI0 (by omega) ?_)
      | (refine set_atI rfl ?_)
      | (refine ⟨⟨by decide, rfl, by omega, by omega, by omega, by dsimp only; omega⟩, ?_⟩)
      | (refine arem (by omega) ?_)
      | (refine aquo (by omega) (by omega) ?_)
      | (refine au8 ?_)
      | (refine au64 (by omega) ?_)
      | (refine anat ?_)
      | (refine szOk rfl ?_)
      | (refine dvOk rfl (by omega) ?_)
      | (refine nzOk (by decide) ?_)
      | (refine lgOk (by kernel_rfl) ?_)
      | (refine kpOk (by kernel_rfl) ?_)
      | fail)
    all_goals conv => whnf
    exact key
theorem sortS.ac (l : List Pn) (hl : l.length ≤ 1000) (hv : ∀ p ∈ l, p.v.length ≤ 100000) {K : V → List Obj → List Obj → Prop} (hK : K (.is 8 ((pnSort l).map encPn)) [] []) : AC Try.prog 49 [.is 8 (l.map encPn)] [] K := by
  refine AC.frz ?_
  have key : ∀ o, o = pnSort l → ∃ v' news' n es, [rowP o] = news' ++ [.arr true n es] ∧ LendR (1, news'.length) n es (.ls (1, 0) 8 0 o.length) v' ∧ (∀ x ∈ ([] : List Obj) ++ news', (1, news'.length) ∉ x.ments) ∧ K v' [] news' := by
    rintro _ rfl
    exact frz1 (by simp) hK
  refine ac_body (annM [] [(3, [0, 3, 4], [(9, 1)]), (6, [0, 3, 4, 5], [(9, 1)])] [(3, [((9, 1), [9, 50])])]) [((997, 0), true), ((9, 0), false), ((9, 1), false), ((39, 0), false), ((43, 0), false), ((44, 0), false), ((48, 0), false), ((50, 0), false)] hm htt Try.func49 rfl (by kernel_rfl) rfl rfl ?_
  repeat' ((conv => whnf); first
    | (refine bF_dec (fun _ => ?_) (fun _ => ?_) <;> try (exfalso; omega))
    | (refine bF_eq (fun _ => ?_) (fun _ => ?_) <;> try (exfalso; omega))
    | (refine bF_ne (fun _ => ?_) (fun _ => ?_) <;> try (exfalso; omega))
    | (refine a64 (by omega) ?_)
    | (refine ix_at rfl (by omega) ?_)
    | (refine ⟨⟨rfl, by omega, by omega⟩, ?_⟩)
    | (refine map_at (by omega) ?_)
    | (refine alen ?_)
    | (refine amin ?_)
    | (refine amax ?_)
    | (refine ⟨⟨rfl, rfl, by simp [V.ments, mentsL]⟩, ?_⟩)
    | (refine map_at0 (by omega) ?_)
    | (refine set_at rfl ?_)
    | (refine map_atI (by omega) ?_)
    | (refine map_atI0 (by omega) ?_)
    | (refine set_atI rfl ?_)
    | (refine ⟨⟨by decide, rfl, by omega, by omega, by omega, by dsimp only; omega⟩, ?_⟩)
    | (refine arem (by omega) ?_)
    | (refine aquo (by omega) (by omega) ?_)
    | (refine au8 ?_)
    | (refine au64 (by omega) ?_)
    | (refine anat ?_)
    | (refine szOk rfl ?_)
    | (refine dvOk rfl (by omega) ?_)
    | (refine nzOk (by decide) ?_)
    | (refine lgOk (by kernel_rfl) ?_)
    | (refine kpOk (by kernel_rfl) ?_)
    | fail)
  all_goals conv => whnf
  refine cwF_loop (fun m st => ∃ (i : Nat) (o : List Pn), (m = l.length - i ∧ i ≤ l.length ∧ o = pnSort (l.take i) ∧ o.length = i) ∧
    st = ⟨[.is 8 (l.map encPn), .un, .un, .ls (9, 1) 8 0 o.length, iv i] ++ List.replicate 45 .un, mkOb [((9, 1), some (rowP o))]⟩) l.length (by kernel_rfl) ⟨0, [], ⟨rfl, by omega, rfl, rfl⟩, rfl⟩ ?_
  rintro m st ⟨i, o, ⟨rfl, hi, ho, hol⟩, rfl⟩
  have hom : (o.map encPn).length = i := by rw [List.length_map, hol]
  have hgv : (l.getD i default).v.length ≤ 100000 := by
    by_cases h : i < l.length
    · rw [List.getD_eq_getElem?_getD, List.getElem?_eq_getElem h]; exact hv _ (List.getElem_mem h)
    · rw [List.getD_eq_getElem?_getD, List.getElem?_eq_none (by omega)]; exact Nat.zero_le _
  by_cases hil : i < l.length
  · repeat' ((conv => whnf); first
      | (refine bF_dec (fun _ => ?_) (fun _ => ?_) <;> try (exfalso; omega))
      | (refine bF_eq (fun _ => ?_) (fun _ => ?_) <;> try (exfalso; omega))
      | (refine bF_ne (fun _ => ?_) (fun _ => ?_) <;> try (exfalso; omega))
      | (refine a64 (by omega) ?_)
      | (refine ix_at rfl (by omega) ?_)
      | (refine ⟨⟨rfl, by omega, by omega⟩, ?_⟩)
      | (refine map_at (by omega) ?_)
      | (refine alen ?_)
      | (refine amin ?_)
      | (refine amax ?_)
      | (refine ⟨⟨rfl, rfl, by simp [V.ments, mentsL]⟩, ?_⟩)
      | (refine map_at0 (by omega) ?_)
      | (refine set_at rfl ?_)
      | (refine map_atI (by omega) ?_)
      | (refine map_atI0 (by omega) ?_)
      | (refine set_atI rfl ?_)
      | (refine ⟨⟨by decide, rfl, by omega, by omega, by omega, by dsimp only; omega⟩, ?_⟩)
      | (refine arem (by omega) ?_)
      | (refine aquo (by omega) (by omega) ?_)
      | (refine au8 ?_)
      | (refine au64 (by omega) ?_)
      | (refine anat ?_)
      | (refine szOk rfl ?_)
      | (refine dvOk rfl (by omega) ?_)
      | (refine nzOk (by decide) ?_)
      | (refine lgOk (by kernel_rfl) ?_)
      | (refine kpOk (by kernel_rfl) ?_)
      | fail)
    all_goals conv => whnf
    refine cwF_loop (fun m st => ∃ (z : Int), (m = z.toNat ∧ 0 ≤ z ∧ z ≤ o.length ∧ pnAt (l.getD i default) o o.length = pnAt (l.getD i default) o z.toNat) ∧
      st = ⟨[.is 8 (l.map encPn), .un, .un, .ls (9, 1) 8 0 o.length, iv i, iv z] ++ List.replicate 44 .un, mkOb [((9, 1), some (rowP o))]⟩) o.length (by kernel_rfl) ⟨o.length, ⟨by omega, by omega, by omega, by rw [Int.toNat_natCast]⟩, rfl⟩ ?_
    rintro m st ⟨z, ⟨hmz, z0, z1, hat⟩, rfl⟩
    have hfin : ∀ X Y : List Pn, X = o.take z.toNat → Y = o.drop z.toNat → pnAt (l.getD i default) o o.length = z.toNat → X ++ ([l.getD i default] ++ Y) = pnSort (l.take (i + 1)) := by
      rintro _ _ rfl rfl h
      rw [pnSort_take hil, ← ho]
      unfold pnIns
      rw [h]; rfl
    have e1 : (z - 1).toNat = z.toNat - 1 := by omega
    repeat' ((conv => whnf); first
      | (refine lessS2 (l.getD i default) (o.getD (0 + (z - 1).toNat) default) (fun hlt => ?_) (fun hlt => ?_))
      | (refine copyPnS.ac (l.getD i default) hgv ?_)
      | (refine appR (f := encPn) (l := [l.getD i default]) ⟨by decide, rfl, rfl, by simp, ⟨by simp; omega, by simp; omega⟩, rfl, by simp [mentsOne]⟩ ?_)
      | (refine appN (f := encPn) ⟨by decide, rfl, rfl, by simp, ⟨by simp; omega, by simp; omega⟩, rfl, by simp [mentsOne]⟩ ?_)
      | (refine appR (f := encPn) ⟨by decide, rfl, rfl, by simp, ⟨by simp; omega, by simp; omega⟩, rfl, by simp [mentsOne]⟩ ?_)
      | (refine part_at (f := encPn) (l := o) ⟨rfl, rfl, by simp; omega⟩ ?_)
      | (refine all_at (f := encPn) ⟨rfl, rfl, by simp⟩ ?_)
      | (refine andOk (by omega) ?_)
      | (refine bF_dec (fun _ => ?_) (fun _ => ?_) <;> try (exfalso; omega))
      | (refine bF_eq (fun _ => ?_) (fun _ => ?_) <;> try (exfalso; omega))
      | (refine bF_ne (fun _ => ?_) (fun _ => ?_) <;> try (exfalso; omega))
      | (refine a64 (by omega) ?_)
      | (refine ix_at rfl (by omega) ?_)
      | (refine ⟨⟨rfl, by omega, by omega⟩, ?_⟩)
      | (refine map_at (by omega) ?_)
      | (refine alen ?_)
      | (refine amin ?_)
      | (refine amax ?_)
      | (refine ⟨⟨rfl, rfl, by simp [V.ments, mentsL]⟩, ?_⟩)
      | (refine map_at0 (by omega) ?_)
      | (refine set_at rfl ?_)
      | (refine map_atI (by omega) ?_)
      | (refine map_atI0 (by omega) ?_)
      | (refine set_atI rfl ?_)
      | (refine ⟨⟨by decide, rfl, by omega, by omega, by omega, by dsimp only; omega⟩, ?_⟩)
      | (refine arem (by omega) ?_)
      | (refine aquo (by omega) (by omega) ?_)
      | (refine au8 ?_)
      | (refine au64 (by omega) ?_)
      | (refine anat ?_)
      | (refine szOk rfl ?_)
      | (refine dvOk rfl (by omega) ?_)
      | (refine nzOk (by decide) ?_)
      | (refine lgOk (by kernel_rfl) ?_)
      | (refine kpOk (by kernel_rfl) ?_)
      | fail)
    all_goals conv => whnf
    · exact ⟨(z - 1).toNat, by omega, z - 1, ⟨rfl, by omega, by omega, by rw [hat, e1, at_step (by omega) (by rw [Nat.zero_add, e1] at hlt; exact hlt)]⟩, rfl⟩
    all_goals
      refine ⟨l.length - (i + 1), by omega, i + 1, _, ⟨rfl, by omega, ?_, ?_⟩, rfl⟩
    · refine hfin _ _ ?_ ?_ ?_
      · simp
      · simp
        exact List.take_of_length_le (by rw [List.length_drop]; omega)
      · rw [hat]
        refine at_stop (.inr ?_)
        rw [Nat.zero_add, e1] at hlt
        simpa using hlt
    · simp; omega
    · refine hfin _ _ ?_ ?_ ?_
      · simp
      · simp
        exact List.take_of_length_le (by rw [List.length_drop]; omega)
      · rw [hat]
        exact at_stop (.inl (by omega))
    · simp; omega
  · repeat' ((conv => whnf); first
      | (refine bF_dec (fun _ => ?_) (fun _ => ?_) <;> try (exfalso; omega))
      | (refine bF_eq (fun _ => ?_) (fun _ => ?_) <;> try (exfalso; omega))
      | (refine bF_ne (fun _ => ?_) (fun _ => ?_) <;> try (exfalso; omega))
      | (refine a64 (by omega) ?_)
      | (refine ix_at rfl (by omega) ?_)
      | (refine ⟨⟨rfl, by omega, by omega⟩, ?_⟩)
      | (refine map_at (by omega) ?_)
      | (refine alen ?_)
      | (refine amin ?_)
      | (refine amax ?_)
      | (refine ⟨⟨rfl, rfl, by simp [V.ments, mentsL]⟩, ?_⟩)
      | (refine map_at0 (by omega) ?_)
      | (refine set_at rfl ?_)
      | (refine map_atI (by omega) ?_)
      | (refine map_atI0 (by omega) ?_)
      | (refine set_atI rfl ?_)
      | (refine ⟨⟨by decide, rfl, by omega, by omega, by omega, by dsimp only; omega⟩, ?_⟩)
      | (refine arem (by omega) ?_)
      | (refine aquo (by omega) (by omega) ?_)
      | (refine au8 ?_)
      | (refine au64 (by omega) ?_)
      | (refine anat ?_)
      | (refine szOk rfl ?_)
      | (refine dvOk rfl (by omega) ?_)
      | (refine nzOk (by decide) ?_)
      | (refine lgOk (by kernel_rfl) ?_)
      | (refine kpOk (by kernel_rfl) ?_)
      | fail)
    all_goals conv => whnf
    exact key o (by rw [ho, List.take_of_length_le (by omega)])
end Go.Eng.T
