import Derived.Test.YtpfmaiiolifblaaXWdS
import Derived.Test.YtpfmaiiolifblaaXTopTh
namespace Go.Eng.T
open Go.Proofs Go.Eng
set_option maxRecDepth 100000
set_option maxHeartbeats 0

abbrev rowI (l : List Int) : Obj := .arr true 1 (l.map iv)
/-- Several rows that have grown go over to their standing numbers at one loop. -/
def swA (ob : Store) : List (Key × List Nat) → List (Key × Key)
  | [] => []
  | (k, ss) :: r => swF ob k ss ++ swA ob r
def swM (l : List (Nat × List (Key × List Nat))) : Nat → Store → List (Key × Key) := fun n ob => match l with
  | [] => []
  | (m, r) :: l => bif Nat.beq m n then swA ob r else swM l n ob
abbrev annM (i : List (Nat × List Nat)) (l : List (Nat × List Nat × List Key)) (s : List (Nat × List (Key × List Nat))) : Ann := { imm := immL i, keep := keepL l, sw := swM s }
theorem sd_snoc {out all A : List Int} {i : Nat} (h : i < all.length) (hm : ∀ j, j < all.length → all.getD j default ≤ all.getD i default) (e : out ++ sd all = A) : (out ++ [all.getD i default]) ++ sd (all.take i ++ all.drop (i + 1)) = A := by
  rw [← e, sd_max h (fun x hx => by
    obtain ⟨j, hj, rfl⟩ := List.mem_iff_getElem.1 hx
    have := hm j hj
    rw [List.getD_eq_getElem?_getD, List.getElem?_eq_getElem hj] at this
    exact this), List.append_assoc]; rfl
theorem sd_end {out all : List Int} {A : List Int} (e : out ++ sd all = sd A) (h : out.length ≤ 4) (h2 : 4 ≤ out.length ∨ all.length = 0) : out = top4 A := by
  unfold top4
  rw [← e]
  rcases h2 with h2 | h2
  · rw [List.take_append_of_le_length (by omega), List.take_of_length_le (by omega)]
  · have : all = [] := List.length_eq_zero_iff.1 h2
    subst this
    have h3 : sd [] = [] := List.length_eq_zero_iff.1 (sd_length [])
    rw [h3, List.append_nil, List.take_of_length_le (by omega)]
theorem TopOfS.new (a b : List Int) (la : a.length ≤ 100000) (lb : b.length ≤ 100000) {K : V → List Obj → List Obj → Prop} (hK : K (.ls (1, 0) 1 0 (top4 (a ++ b)).length) [] [rowI (top4 (a ++ b))]) : AC Try.prog 139 [.is 1 (a.map iv), .is 1 (b.map iv)] [] K := by
  have hK' : ∀ o, o = top4 (a ++ b) → K (.ls (1, 0) 1 0 o.length) [] [rowI o] := by rintro _ rfl; exact hK
  refine ac_body (annM [] [(3, [5, 6], [(15, 1), (16, 1)]), (6, [5, 6, 7, 8], [(15, 1), (16, 1)])] [(3, [((15, 1), [15, 57]), ((16, 1), [16, 47])])]) [((997, 0), true), ((11, 0), false), ((13, 0), false), ((15, 0), false), ((15, 1), false), ((16, 0), false), ((16, 1), false), ((46, 0), true), ((47, 0), false), ((48, 0), false), ((52, 0), false), ((57, 0), false)] hm htt Try.func139 rfl (by kernel_rfl) rfl rfl ?_
  repeat' ((conv => whnf); first
    | (refine appN (f := iv) (m := a) ⟨by decide, rfl, rfl, by simp, ⟨by simp; omega, by simp; omega⟩, rfl, by simp [mentsOne]⟩ ?_)
    | (refine appR (f := iv) (l := a) (m := b) ⟨by decide, rfl, rfl, by simp, ⟨by simp; omega, by simp; omega⟩, rfl, by simp [mentsOne]⟩ ?_)
    | (refine bF_dec (fun _ => ?_) (fun _ => ?_) <;> try (exfalso; omega))
    | (refine bF_eq (fun _ => ?_) (fun _ => ?_) <;> try (exfalso; omega))
    | (refine bF_ne (fun _ => ?_) (fun _ => ?_) <;> try (exfalso; omega))
    | (refine a64 (by omega) ?_)
    | (refine ix_at rfl (by omega) ?_)
    | (refine ⟨⟨rfl, by omega, by omega⟩, ?_⟩)
    | (refine map_at (by omega) ?_)
    | (refine alen ?_)
    | (refine amin ?_)
    | (refine amax ?_)
    | (refine ⟨⟨rfl, rfl, by simp [V.ments, mentsL]⟩, ?_⟩)
    | (refine map_at0 (by omega) ?_)
    | (refine set_at rfl ?_)
    | (refine map_atI (by omega) ?_)
    | (refine map_atI0 (by omega) ?_)
    | (refine set_atI rfl ?_)
    | (refine ⟨⟨by decide, rfl, by omega, by omega, by omega, by dsimp only; omega⟩, ?_⟩)
    | (refine arem (by omega) ?_)
    | (refine aquo (by omega) (by omega) ?_)
    | (refine au8 ?_)
    | (refine au64 (by omega) ?_)
    | (refine anat ?_)
    | (refine szOk rfl ?_)
    | (refine dvOk rfl (by omega) ?_)
    | (refine nzOk (by decide) ?_)
    | (refine lgOk (by kernel_rfl) ?_)
    | (refine kpOk (by kernel_rfl) ?_)
    | fail)
  all_goals conv => whnf
  refine cwF_loop (fun m st => ∃ (out all : List Int), (m = all.length ∧ out ++ sd all = sd (a ++ b) ∧ out.length ≤ 4 ∧ all.length ≤ 200000) ∧
    st = ⟨[.un, .un, .un, .un, .un, .ls (15, 1) 1 0 all.length, .ls (16, 1) 1 0 out.length] ++ List.replicate 50 .un, mkOb [((15, 1), some (rowI all)), ((16, 1), some (rowI out))]⟩) (a ++ b).length (by kernel_rfl) ⟨[], a ++ b, ⟨rfl, rfl, by simp, by simp; omega⟩, rfl⟩ ?_
  rintro m st ⟨out, all, ⟨rfl, he, ho, hl⟩, rfl⟩
  repeat' ((conv => whnf); first
    | (refine bF_dec (fun _ => ?_) (fun _ => ?_) <;> try (exfalso; omega))
    | (refine bF_eq (fun _ => ?_) (fun _ => ?_) <;> try (exfalso; omega))
    | (refine bF_ne (fun _ => ?_) (fun _ => ?_) <;> try (exfalso; omega))
    | (refine a64 (by omega) ?_)
    | (refine ix_at rfl (by omega) ?_)
    | (refine ⟨⟨rfl, by omega, by omega⟩, ?_⟩)
    | (refine map_at (by omega) ?_)
    | (refine alen ?_)
    | (refine amin ?_)
    | (refine amax ?_)
    | (refine ⟨⟨rfl, rfl, by simp [V.ments, mentsL]⟩, ?_⟩)
    | (refine map_at0 (by omega) ?_)
    | (refine set_at rfl ?_)
    | (refine map_atI (by omega) ?_)
    | (refine map_atI0 (by omega) ?_)
    | (refine set_atI rfl ?_)
    | (refine ⟨⟨by decide, rfl, by omega, by omega, by omega, by dsimp only; omega⟩, ?_⟩)
    | (refine arem (by omega) ?_)
    | (refine aquo (by omega) (by omega) ?_)
    | (refine au8 ?_)
    | (refine au64 (by omega) ?_)
    | (refine anat ?_)
    | (refine szOk rfl ?_)
    | (refine dvOk rfl (by omega) ?_)
    | (refine nzOk (by decide) ?_)
    | (refine lgOk (by kernel_rfl) ?_)
    | (refine kpOk (by kernel_rfl) ?_)
    | fail)
  all_goals conv => whnf
  · refine cwF_loop (fun m st => ∃ (i j : Nat), (m = all.length - i ∧ i ≤ all.length ∧ j < all.length ∧ ∀ l, l < i → all.getD l default ≤ all.getD j default) ∧
      st = ⟨[.un, .un, .un, .un, .un, .ls (15, 1) 1 0 all.length, .ls (16, 1) 1 0 out.length, iv j, iv i] ++ List.replicate 48 .un, mkOb [((15, 1), some (rowI all)), ((16, 1), some (rowI out))]⟩) all.length (by kernel_rfl) ⟨0, 0, ⟨rfl, by omega, by omega, fun l h => absurd h (by omega)⟩, rfl⟩ ?_
    rintro m st ⟨i, j, ⟨rfl, hi, hj, hle⟩, rfl⟩
    repeat' ((conv => whnf); first
      | (refine appN (f := iv) ⟨by decide, rfl, rfl, by simp, ⟨by simp; omega, by simp; omega⟩, rfl, by simp [mentsOne]⟩ ?_)
      | (refine appR (f := iv) ⟨by decide, rfl, rfl, by simp, ⟨by simp; omega, by simp; omega⟩, rfl, by simp [mentsOne]⟩ ?_)
      | (refine part_at (f := iv) (l := all) ⟨rfl, rfl, by simp; omega⟩ ?_)
      | (refine andOk (by omega) ?_)
      | (refine app1 (f := iv) ⟨by decide, rfl, rfl, by simp, ⟨by simp; omega, by simp; omega⟩, rfl, by simp [mentsOne]⟩ rfl ?_)
      | (refine bF_dec (fun _ => ?_) (fun _ => ?_) <;> try (exfalso; omega))
      | (refine bF_eq (fun _ => ?_) (fun _ => ?_) <;> try (exfalso; omega))
      | (refine bF_ne (fun _ => ?_) (fun _ => ?_) <;> try (exfalso; omega))
      | (refine a64 (by omega) ?_)
      | (refine ix_at rfl (by omega) ?_)
      | (refine ⟨⟨rfl, by omega, by omega⟩, ?_⟩)
      | (refine map_at (by omega) ?_)
      | (refine alen ?_)
      | (refine amin ?_)
      | (refine amax ?_)
      | (refine ⟨⟨rfl, rfl, by simp [V.ments, mentsL]⟩, ?_⟩)
      | (refine map_at0 (by omega) ?_)
      | (refine set_at rfl ?_)
      | (refine map_atI (by omega) ?_)
      | (refine map_atI0 (by omega) ?_)
      | (refine set_atI rfl ?_)
      | (refine ⟨⟨by decide, rfl, by omega, by omega, by omega, by dsimp only; omega⟩, ?_⟩)
      | (refine arem (by omega) ?_)
      | (refine aquo (by omega) (by omega) ?_)
      | (refine au8 ?_)
      | (refine au64 (by omega) ?_)
      | (refine anat ?_)
      | (refine szOk rfl ?_)
      | (refine dvOk rfl (by omega) ?_)
      | (refine nzOk (by decide) ?_)
      | (refine lgOk (by kernel_rfl) ?_)
      | (refine kpOk (by kernel_rfl) ?_)
      | fail)
    all_goals conv => whnf
    · rename_i hgt
      rw [Nat.zero_add, Nat.zero_add, Int.toNat_natCast, Int.toNat_natCast] at hgt
      exact ⟨all.length - (i + 1), by omega, i + 1, i, ⟨rfl, by omega, by omega, fun l hl => by
        by_cases h : l = i
        · rw [h]; exact Int.le_refl _
        · have := hle l (by omega); omega⟩, rfl⟩
    · rename_i hgt
      rw [Nat.zero_add, Nat.zero_add, Int.toNat_natCast, Int.toNat_natCast] at hgt
      exact ⟨all.length - (i + 1), by omega, i + 1, j, ⟨rfl, by omega, by omega, fun l hl => by
        by_cases h : l = i
        · rw [h]; omega
        · exact hle l (by omega)⟩, rfl⟩
    have hmx : ∀ l, l < all.length → all.getD l default ≤ all.getD j default := fun l hl => hle l (by omega)
    have e1 : ((j : Int) + 1).toNat = j + 1 := by omega
    refine ⟨_, ?_, _, _, ⟨rfl, ?_, ?_, ?_⟩, rfl⟩
    all_goals simp only [Nat.zero_add, Nat.add_zero, List.drop_zero, Int.toNat_natCast, Nat.sub_zero, e1]
    · simp; omega
    · have := sd_snoc hj hmx he
      rw [List.take_of_length_le (l := all.drop (j + 1)) (by simp)]
      exact this
    · simp; omega
    · simp; omega
  · exact hK' _ (sd_end he ho (by omega))
  · exact hK' _ (sd_end he ho (by omega))
theorem TopOfS.ac (a b : List Int) (la : a.length ≤ 100000) (lb : b.length ≤ 100000) {K : V → List Obj → List Obj → Prop} (hK : K (.is 1 ((top4 (a ++ b)).map iv)) [] []) : AC Try.prog 139 [.is 1 (a.map iv), .is 1 (b.map iv)] [] K :=
  AC.frz (TopOfS.new a b la lb (frz1 (by simp) hK))
end Go.Eng.T
