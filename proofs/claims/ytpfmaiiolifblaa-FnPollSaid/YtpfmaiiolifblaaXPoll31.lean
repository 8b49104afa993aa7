import Derived.Test.YtpfmaiiolifblaaXPoll29
import Derived.Test.YtpfmaiiolifblaaXPoll30
namespace Go.Eng.T
open Go.Proofs Go.Eng
set_option maxRecDepth 100000
set_option maxHeartbeats 0

abbrev rowI (l : List Int) : Obj := .arr true 1 (l.map iv)
/-- Several rows that have grown go over to their standing numbers at one loop. -/
def swA (ob : Store) : List (Key × List Nat) → List (Key × Key)
  | [] => []
  | (k, ss) :: r => swF ob k ss ++ swA ob r
def swM (l : List (Nat × List (Key × List Nat))) : Nat → Store → List (Key × Key) := fun n ob => match l with
  | [] => []
  | (m, r) :: l => bif Nat.beq m n then swA ob r else swM l n ob
abbrev annM (i : List (Nat × List Nat)) (l : List (Nat × List Nat × List Key)) (s : List (Nat × List (Key × List Nat))) : Ann := { imm := immL i, keep := keepL l, sw := swM s }
theorem sd_snoc {out all A : List Int} {i : Nat} (h : i < all.length) (hm : ∀ j, j < all.length → all.getD j default ≤ all.getD i default) (e : out ++ sd all = A) : (out ++ [all.getD i default]) ++ sd (all.take i ++ all.drop (i + 1)) = A := by
  rw [← e, sd_max h (fun x hx => by
    obtain ⟨j, hj, rfl⟩ := List.mem_iff_getElem.1 hx
    have := hm j hj
    rw [List.getD_eq_getElem?_getD, List.getElem?_eq_getElem hj] at this
    exact this), List.append_assoc]; rfl
theorem sd_end {out all : List Int} {A : List Int} (e : out ++ sd all = sd A) (h : out.length ≤ 4) (h2 : 4 ≤ out.length ∨ all.length = 0) : out = top4 A := by
  unfold top4
  rw [← e]
  rcases h2 with h2 | h2
  · rw [List.take_append_of_le_length (by omega), List.take_of_length_le (by omega)]
  · have : all = [] := List.length_eq_zero_iff.1 h2
    subst this
    have h3 : sd [] = [] := List.length_eq_zero_iff.1 (sd_length [])
    rw [h3, List.append_nil, List.take_of_length_le (by omega)]
theorem TopOfS.new (a b : List Int) (la : a.length ≤ 100000) (lb : b.length ≤ 100000) {K : V → List Obj → List Obj → Prop} (hK : K (.ls (1, 0) 1 0 (top4 (a ++ b)).length) [] [rowI (top4 (a ++ b))]) : AC Try.prog 139 [.is 1 (a.map iv), .is 1 (b.map iv)] [] K := by
  have hK' : ∀ o, o = top4 (a ++ b) → K (.ls (1, 0) 1 0 o.length) [] [rowI o] := by rintro _ rfl; exact hK
  refine ac_body (annM [] [(3, [5, 6], [(15, 1), (16, 1)]), (6, [5, 6, 7, 8], [(15, 1), (16, 1)])] [(3, [((15, 1), [15, 57]), ((16, 1), [16, 47])])]) [((997, 0), true), ((11, 0), false), ((13, 0), false), ((15, 0), false), ((15, 1), false), ((16, 0), false), ((16, 1), false), ((46, 0), true), ((47, 0), false), ((48, 0), false), ((52, 0), false), ((57, 0), false)] hm htt Try.func139 rfl (by kernel_rfl) rfl rfl ?_
  repeat' ((conv => whnf); first
    | (refine appN (f := iv) (m := a) ⟨by decide, rfl, rfl, by simp, ⟨by simp; omega, by simp; omega⟩, rfl, by simp [mentsOne]⟩ ?_)
    | (refine appR (f := iv) (l := a) (m := b) ⟨by decide, rfl, rfl, by simp, ⟨by simp; omega, by simp; omega⟩, rfl, by simp [mentsOne]⟩ ?_)
    | (refine bF_dec (fun _ => ?_) (fun _ => ?_) <;> try (exfalso; omega))
    | (refine bF_eq (fun _ => ?_) (fun _ => ?_) <;> try (exfalso; omega))
    | (refine bF_ne (fun _ => ?_) (fun _ => ?_) <;> try (exfalso; omega))
    | (refine a64 (by omega) ?_)
    | (refine ix_at rfl (by omega) ?_)
    | (refine ⟨⟨rfl, by omega, by omega⟩, ?_⟩)
    | (refine map_at (by omega) ?_)
    | (refine alen ?_)
    | (refine amin ?_)
    | (refine amax ?_)
    | (refine ⟨⟨rfl, rfl, by simp [V.ments, mentsL]⟩, ?_⟩)
    | (refine map_at0 (by omega) ?_)
    | (refine set_at rfl ?_)
    | (refine map_atI (by omega) ?_)
    | (refine map_atI0 (by omega) ?_)
    | (refine set_atI rfl ?_)
    | (refine ⟨⟨by decide, rfl, by omega, by omega, by omega, by dsimp only; omega⟩, ?_⟩)
    | (refine arem (by omega) ?_)
    | (refine aquo (by omega) (by omega) ?_)
    | (refine au8 ?_)
    | (refine au64 (by omega) ?_)
    | (refine anat ?_)
    | (refine szOk rfl ?_)
    | (refine dvOk rfl (by omega) ?_)
    | (refine nzOk (by decide) ?_)
    | (refine lgOk (by kernel_rfl) ?_)
    | (refine kpOk (by kernel_rfl) ?_)
    | fail)
  all_goals conv => whnf
  refine cwF_loop (fun m st => ∃ (out all : List Int), (m = all.length ∧ out ++ sd all = sd (a ++ b) ∧ out.length ≤ 4 ∧ all.length ≤ 200000) ∧
    st = ⟨[.un, .un, .un, .un, .un, .ls (15, 1) 1 0 all.length, .ls (16, 1) 1 0 out.length] ++ List.replicate 50 .un, mkOb [((15, 1), some (rowI all)), ((16, 1), some (rowI out))]⟩) (a ++ b).length (by kernel_rfl) ⟨[], a ++ b, ⟨rfl, rfl, by simp, by simp; omega⟩, rfl⟩ ?_
  rintro m st ⟨out, all, ⟨rfl, he, ho, hl⟩, rfl⟩
  repeat' ((conv => whnf); first
    | (refine bF_dec (fun _ => ?_) (fun _ => ?_) <;> try (exfalso; omega))
    | (refine bF_eq (fun _ => ?_) (fun _ => ?_) <;> try (exfalso; omega))
    | (refine bF_ne (fun _ => ?_) (fun _ => ?_) <;> try (exfalso; omega))
    | (refine a64 (by omega) ?_)
    | (refine ix_at rfl (by omega) ?_)
    | (refine ⟨⟨rfl, by omega, by omega⟩, ?_⟩)
    | (refine map_at (by omega) ?_)
    | (refine alen ?_)
    | (refine amin ?_)
    | (refine amax ?_)
    | (refine ⟨⟨rfl, rfl, by simp [V.ments, mentsL]⟩, ?_⟩)
    | (refine map_at0 (by omega) ?_)
    | (refine set_at rfl ?_)
    | (refine map_atI (by omega) ?_)
    | (refine map_atI0 (by omega) ?_)
    | (refine set_atI rfl ?_)
    | (refine ⟨⟨by decide, rfl, by omega, by omega, by omega, by dsimp only; omega⟩, ?_⟩)
    | (refine arem (by omega) ?_)
    | (refine aquo (by omega) (by omega) ?_)
    | (refine au8 ?_)
    | (refine au64 (by omega) ?_)
    | (refine anat ?_)
    | (refine szOk rfl ?_)
    | (refine dvOk rfl (by omega) ?_)
    | (refine nzOk (by decide) ?_)
    | (refine lgOk (by kernel_rfl) ?_)
    | (refine kpOk (by kernel_rfl) ?_)
    | fail)
  all_goals conv => whnf
  · refine cwF_loop (fun m st => ∃ (i j : Nat), (m = all.length - i ∧ i ≤ all.length ∧ j < all.length ∧ ∀ l, l < i → all.getD l default ≤ all.getD j default) ∧
      st = ⟨[.un, .un, .un, .un, .un, .ls (15, 1) 1 0 all.length, .ls (16, 1) 1 0 out.length, iv j, iv i] ++ List.replicate 48 .un, mkOb [((15, 1), some (rowI all)), ((16, 1), some (rowI out))]⟩) all.length (by kernel_rfl) ⟨0, 0, ⟨rfl, by omega, by omega, fun l h => absurd h (by omega)⟩, rfl⟩ ?_
    rintro m st ⟨i, j, ⟨rfl, hi, hj, hle⟩, rfl⟩
    repeat' ((conv => whnf); first
      | (refine appN (f := iv) ⟨by decide, rfl, rfl, by simp, ⟨by simp; omega, by simp; omega⟩, rfl, by simp [mentsOne]⟩ ?_)
      | (refine appR (f := iv) ⟨by decide, rfl, rfl, by simp, ⟨by simp; omega, by simp; omega⟩, rfl, by simp [mentsOne]⟩ ?_)
      | (refine part_at (f := iv) (l := all) ⟨rfl, rfl, by simp; omega⟩ ?_)
      | (refine andOk (by omega) ?_)
      | (refine app1 (f := iv) ⟨by decide, rfl, rfl, by simp, ⟨by simp; omega, by simp; omega⟩, rfl, by simp [mentsOne]⟩ rfl ?_)
      | (refine bF_dec (fun _ => ?_) (fun _ => ?_) <;> try (exfalso; omega))
      | (refine bF_eq (fun _ => ?_) (fun _ => ?_) <;> try (exfalso; omega))
      | (refine bF_ne (fun _ => ?_) (fun _ => ?_) <;> try (exfalso; omega))
      | (refine a64 (by omega) ?_)
      | (refine ix_at rfl (by omega) ?_)
      | (refine ⟨⟨rfl, by omega, by omega⟩, ?_⟩)
      | (refine map_at (by omega) ?_)
      | (refine alen ?_)
      | (refine amin ?_)
      | (refine amax ?_)
      | (refine ⟨⟨rfl, rfl, by simp [V.ments, mentsL]⟩, ?_⟩)
      | (refine map_at0 (by omega) ?_)
      | (refine set_at rfl ?_)
      | (refine map_atI (by omega) ?_)
      | (refine map_atI0 (by omega) ?_)
      | (refine set_atI rfl ?_)
      | (refine ⟨⟨by decide, rfl, by omega, by omega, by omega, by dsimp only; omega⟩, ?_⟩)
      | (refine arem (by omega) ?_)
      | (refine aquo (by omega) (by omega) ?_)
      | (refine au8 ?_)
      | (refine au64 (by omega) ?_)
      | (refine anat ?_)
      | (refine szOk rfl ?_)
      | (refine dvOk rfl (by omega) ?_)
      | (refine nzOk (by decide) ?_)
      | (refine lgOk (by kernel_rfl) ?_)
      | (refine kpOk (by kernel_rfl) ?_)
      | fail)
    all_goals conv => whnf
    · rename_i hgt
      rw [Nat.zero_add, Nat.zero_add, Int.toNat_natCast, Int.toNat_natCast] at hgt
      exact ⟨all.length - (i + 1), by omega, i + 1, i, ⟨rfl, by omega, by omega, fun l hl => by
        by_cases h : l = i
        · rw [h]; exact Int.le_refl _
        · have := hle l (by omega); omega⟩, rfl⟩
    · rename_i hgt
      rw [Nat.zero_add, Nat.zero_add, Int.toNat_natCast, Int.toNat_natCast] at hgt
      exact ⟨all.length - (i + 1), by omega, i + 1, j, ⟨rfl, by omega, by omega, fun l hl => by
        by_cases h : l = i
        · rw [h]; omega
        · exact hle l (by omega)⟩, rfl⟩
    have hmx : ∀ l, l < all.length → all.getD l default ≤ all.getD j default := fun l hl => hle l (by omega)
    have e1 : ((j : Int) + 1).toNat = j + 1 := by omega
    refine ⟨_, ?_, _, _, ⟨rfl, ?_, ?_, ?_⟩, rfl⟩
    all_goals simp only [Nat.zero_add, Nat.add_zero, List.drop_zero, Int.toNat_natCast, Nat.sub_zero, e1]
    · simp; omega
    · have := sd_snoc hj hmx he
      rw [List.take_of_length_le (l := all.drop (j + 1)) (by simp)]
      exact this
    · simp; omega
    · simp; omega
  · exact hK' _ (sd_end he ho (by omega))
  · exact hK' _ (sd_end he ho (by omega))
theorem TopOfS.ac (a b : List Int) (la : a.length ≤ 100000) (lb : b.length ≤ 100000) {K : V → List Obj → List Obj → Prop} (hK : K (.is 1 ((top4 (a ++ b)).map iv)) [] []) : AC Try.prog 139 [.is 1 (a.map iv), .is 1 (b.map iv)] [] K :=
  AC.frz (TopOfS.new a b la lb (frz1 (by simp) hK))
end Go.Eng.T

namespace Go.Eng.T
open Go.Proofs Go.Eng
set_option maxRecDepth 100000
set_option maxHeartbeats 0

abbrev encAg (a : Ag) : V := .agg [iv a.n, iv (whi a.s), uv (wlo a.s), iv a.mn, iv a.mx, .is 1 (a.top.map iv)]
def Ints (l : List Int) : Prop := ∀ x ∈ l, I64 x
theorem Ints.get {l : List Int} (h : Ints l) (i : Nat) : I64 (l.getD i default) := by
  by_cases hi : i < l.length
  · rw [List.getD_eq_getElem?_getD, List.getElem?_eq_getElem hi]; exact h _ (List.getElem_mem hi)
  · rw [List.getD_eq_getElem?_getD, List.getElem?_eq_none (by omega)]; exact ⟨by decide, by decide⟩
theorem TopOfS.nil (b : List Int) (lb : b.length ≤ 100000) {K : V → List Obj → List Obj → Prop} (hK : K (.is 1 ((top4 b).map iv)) [] []) : AC Try.prog 139 [nilS, .is 1 (b.map iv)] [] K := by
  refine AC.args (ys := [.is 1 (([] : List Int).map iv), .is 1 (b.map iv)]) rfl (fun i y hy => ?_) (TopOfS.ac [] b (by simp) lb hK)
  match i, hy with
  | 0, hy => obtain rfl : V.is 1 (([] : List Int).map iv) = y := by simpa using hy
             exact ⟨_, rfl, fun h => nil_is h⟩
  | 1, hy => exact ⟨y, hy, fun h => h⟩
theorem drop_one {l : List Int} {i : Nat} (h : i < l.length) : (l.drop i).take 1 = [l.getD i default] := by
  have := take_step (D := l) (a := i) (j := 0) (by omega)
  rw [Nat.add_zero, List.take_zero, List.nil_append] at this; exact this
theorem agg_first {l : List Int} (h : 0 < l.length) : sumL (l.take 1) = l.getD 0 default ∧ minL (l.take 1) = l.getD 0 default ∧ maxL (l.take 1) = l.getD 0 default ∧ l.take 1 = [l.getD 0 default] := by
  have e : l.take 1 = [l.getD 0 default] := by have := drop_one h; rwa [List.drop_zero] at this
  rw [e]; exact ⟨by unfold sumL; simp, rfl, rfl, rfl⟩
theorem agg_more {l : List Int} {i : Nat} (h0 : 0 < i) (h : i < l.length) : sumL (l.take (i + 1)) = sumL (l.take i) + l.getD i default ∧ minL (l.take (i + 1)) = min (minL (l.take i)) (l.getD i default) ∧ maxL (l.take (i + 1)) = max (maxL (l.take i)) (l.getD i default) ∧ top4 (top4 (l.take i) ++ (l.drop i).take 1) = top4 (l.take (i + 1)) := by
  have hn : l.take i ≠ [] := fun e => by have := congrArg List.length e; rw [List.length_take, List.length_nil] at this; omega
  rw [drop_one h, ← take_succD h, top4_top4, sumL_append, minL_append hn (by simp), maxL_append hn (by simp)]
  refine ⟨by simp [sumL], rfl, rfl, rfl⟩
theorem AggOfS.ac (l : List Int) (hi : Ints l) (hl : l.length ≤ 100000) {K : V → List Obj → List Obj → Prop} (h0 : l = [] → K (.agg [iv 0, iv 0, uv 0, iv 0, iv 0, nilS]) [] []) (h1 : l ≠ [] → K (encAg (agOf l)) [] []) : AC Try.prog 56 [.is 1 (l.map iv)] [] K := by
  have hlm : (l.map iv).length = l.length := List.length_map ..
  have h1' : ∀ s mn mx tp, l ≠ [] → s = sumL l → mn = minL l → mx = maxL l → tp = top4 l → K (.agg [iv l.length, iv (whi s), uv (wlo s), iv mn, iv mx, .is 1 (tp.map iv)]) [] [] := by
    rintro _ _ _ _ hn rfl rfl rfl rfl; exact h1 hn
  refine ac_body (ann [(5, [0, 2, 3, 4], [(4, 0), (5, 0)])]) [((997, 0), true), ((4, 0), true), ((5, 0), true)] hm htt Try.func56 rfl (by kernel_rfl) rfl rfl ?_
  repeat' ((conv => whnf); first
    | (refine bF_dec (fun _ => ?_) (fun _ => ?_) <;> try (exfalso; omega))
    | (refine bF_eq (fun _ => ?_) (fun _ => ?_) <;> try (exfalso; omega))
    | (refine bF_ne (fun _ => ?_) (fun _ => ?_) <;> try (exfalso; omega))
    | (refine a64 (by omega) ?_)
    | (refine ix_at rfl (by omega) ?_)
    | (refine ⟨⟨rfl, by omega, by omega⟩, ?_⟩)
    | (refine map_at (by omega) ?_)
    | (refine alen ?_)
    | (refine amin ?_)
    | (refine amax ?_)
    | (refine ⟨⟨rfl, rfl, by simp [V.ments, mentsL]⟩, ?_⟩)
    | (refine map_at0 (by omega) ?_)
    | (refine set_at rfl ?_)
    | (refine map_atI (by omega) ?_)
    | (refine map_atI0 (by omega) ?_)
    | (refine set_atI rfl ?_)
    | (refine ⟨⟨by decide, rfl, by omega, by omega, by omega, by dsimp only; omega⟩, ?_⟩)
    | (refine arem (by omega) ?_)
    | (refine aquo (by omega) (by omega) ?_)
    | (refine au8 ?_)
    | (refine au64 (by omega) ?_)
    | (refine anat ?_)
    | (refine szOk rfl ?_)
    | (refine dvOk rfl (by omega) ?_)
    | (refine nzOk (by decide) ?_)
    | (refine lgOk (by kernel_rfl) ?_)
    | (refine kpOk (by kernel_rfl) ?_)
    | fail)
  all_goals conv => whnf
  · exact h0 ((List.length_eq_zero_iff (l := l)).1 (by omega))
  refine cwF_loop (fun m st => ∃ (i : Nat), (m = l.length - i ∧ i ≤ l.length ∧ 0 < l.length) ∧
      ((i = 0 ∧ st = ⟨[.is 1 (l.map iv), .un, .lp (4, 0) 6 0 0, .lp (5, 0) 6 0 0, iv i] ++ List.replicate 59 .un, mkOb [((4, 0), some (.arr false 6 [.agg [iv 0, iv 0, uv 0, iv 0, iv 0, nilS]])), ((5, 0), some (.arr false 6 [.agg [iv l.length, iv 0, uv 0, iv (l.getD 0 default), iv (l.getD 0 default), nilS]]))]⟩) ∨
       ∃ (s mn mx : Int) (tp : List Int), (0 < i ∧ s = sumL (l.take i) ∧ mn = minL (l.take i) ∧ mx = maxL (l.take i) ∧ tp = top4 (l.take i)) ∧
         st = ⟨[.is 1 (l.map iv), .un, .lp (4, 0) 6 0 0, .lp (5, 0) 6 0 0, iv i] ++ List.replicate 59 .un, mkOb [((4, 0), some (.arr false 6 [.agg [iv 0, iv 0, uv 0, iv 0, iv 0, nilS]])), ((5, 0), some (.arr false 6 [.agg [iv l.length, iv (whi s), uv (wlo s), iv mn, iv mx, .is 1 (tp.map iv)]]))]⟩)) l.length (by kernel_rfl) ⟨0, ⟨rfl, by omega, by omega⟩, .inl ⟨rfl, rfl⟩⟩ ?_
  rintro m st ⟨i, ⟨rfl, hil, hpos⟩, ⟨rfl, rfl⟩ | ⟨s, mn, mx, tp, ⟨hip, hs, hmn, hmx, htp⟩, rfl⟩⟩
  · repeat' ((conv => whnf); first
      | (refine WideOfS.ac _ (hi.get _) ?_)
      | (refine WideAddS.ac 0 _ ?_)
      | (refine cutN 0 1 (by simp only [List.length_map]; omega) (by omega) (by omega) ?_)
      | (refine TopOfS.nil _ (by simp; omega) ?_)
      | (refine bF_dec (fun _ => ?_) (fun _ => ?_) <;> try (exfalso; omega))
      | (refine bF_eq (fun _ => ?_) (fun _ => ?_) <;> try (exfalso; omega))
      | (refine bF_ne (fun _ => ?_) (fun _ => ?_) <;> try (exfalso; omega))
      | (refine a64 (by omega) ?_)
      | (refine ix_at rfl (by omega) ?_)
      | (refine ⟨⟨rfl, by omega, by omega⟩, ?_⟩)
      | (refine map_at (by omega) ?_)
      | (refine alen ?_)
      | (refine amin ?_)
      | (refine amax ?_)
      | (refine ⟨⟨rfl, rfl, by simp [V.ments, mentsL]⟩, ?_⟩)
      | (refine map_at0 (by omega) ?_)
      | (refine set_at rfl ?_)
      | (refine map_atI (by omega) ?_)
      | (refine map_atI0 (by omega) ?_)
      | (refine set_atI rfl ?_)
      | (refine ⟨⟨by decide, rfl, by omega, by omega, by omega, by dsimp only; omega⟩, ?_⟩)
      | (refine arem (by omega) ?_)
      | (refine aquo (by omega) (by omega) ?_)
      | (refine au8 ?_)
      | (refine au64 (by omega) ?_)
      | (refine anat ?_)
      | (refine szOk rfl ?_)
      | (refine dvOk rfl (by omega) ?_)
      | (refine nzOk (by decide) ?_)
      | (refine lgOk (by kernel_rfl) ?_)
      | (refine kpOk (by kernel_rfl) ?_)
      | fail)
    all_goals conv => whnf
    obtain ⟨e1, e2, e3, e4⟩ := agg_first hpos
    refine ⟨l.length - 1, by omega, 1, ⟨rfl, by omega, by omega⟩, .inr ⟨_, _, _, _, ⟨by omega, ?_, ?_, ?_, ?_⟩, rfl⟩⟩
    · rw [e1]; exact Int.zero_add _
    · rw [e2]; exact Int.min_self _
    · rw [e3]; exact Int.max_self _
    · rw [List.drop_zero]
  · have htl : tp.length ≤ 100000 := by rw [htp, top4_length]; omega
    repeat' ((conv => whnf); first
      | (refine WideOfS.ac _ (hi.get _) ?_)
      | (refine WideAddS.ac _ _ ?_)
      | (refine cutN i 1 (by simp only [List.length_map]; omega) (by omega) (by omega) ?_)
      | (refine TopOfS.ac tp _ htl (by simp; omega) ?_)
      | (refine bF_dec (fun _ => ?_) (fun _ => ?_) <;> try (exfalso; omega))
      | (refine bF_eq (fun _ => ?_) (fun _ => ?_) <;> try (exfalso; omega))
      | (refine bF_ne (fun _ => ?_) (fun _ => ?_) <;> try (exfalso; omega))
      | (refine a64 (by omega) ?_)
      | (refine ix_at rfl (by omega) ?_)
      | (refine ⟨⟨rfl, by omega, by omega⟩, ?_⟩)
      | (refine map_at (by omega) ?_)
      | (refine alen ?_)
      | (refine amin ?_)
      | (refine amax ?_)
      | (refine ⟨⟨rfl, rfl, by simp [V.ments, mentsL]⟩, ?_⟩)
      | (refine map_at0 (by omega) ?_)
      | (refine set_at rfl ?_)
      | (refine map_atI (by omega) ?_)
      | (refine map_atI0 (by omega) ?_)
      | (refine set_atI rfl ?_)
      | (refine ⟨⟨by decide, rfl, by omega, by omega, by omega, by dsimp only; omega⟩, ?_⟩)
      | (refine arem (by omega) ?_)
      | (refine aquo (by omega) (by omega) ?_)
      | (refine au8 ?_)
      | (refine au64 (by omega) ?_)
      | (refine anat ?_)
      | (refine szOk rfl ?_)
      | (refine dvOk rfl (by omega) ?_)
      | (refine nzOk (by decide) ?_)
      | (refine lgOk (by kernel_rfl) ?_)
      | (refine kpOk (by kernel_rfl) ?_)
      | fail)
    all_goals conv => whnf
    · obtain ⟨e1, e2, e3, e4⟩ := agg_more hip (by omega : i < l.length)
      refine ⟨l.length - (i + 1), by omega, i + 1, ⟨rfl, by omega, by omega⟩, .inr ⟨_, _, _, _, ⟨by omega, ?_, ?_, ?_, ?_⟩, rfl⟩⟩
      · rw [e1, hs]
      · rw [e2, hmn]
      · rw [e3, hmx]
      · rw [← e4, htp]
    · have hfull : l.take i = l := List.take_of_length_le (by omega)
      rw [hfull] at hs hmn hmx htp
      exact h1' _ _ _ _ (fun e => by rw [e] at hpos; simp at hpos) hs hmn hmx htp
end Go.Eng.T
