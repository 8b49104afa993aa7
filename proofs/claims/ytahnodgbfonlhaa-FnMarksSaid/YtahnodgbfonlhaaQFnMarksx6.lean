/- Contracts of the functions that the law FnMarks reaches, part 6: each says that the call returns what the Lean function of the same name computes. Made by a program of this session. -/
import Derived.Test.YtahnodgbfonlhaaQFnMarksx0
import Derived.Test.YtahnodgbfonlhaaQFnMarksx1
import Derived.Test.YtahnodgbfonlhaaQFnMarksx5
namespace Go.Proofs.Ytahnodgbfonlhaa.PFnMarks
open Go.RowKit Go.Proofs.YtahnodgbfonlhaaW.PrintWords Go.Proofs.YtahnodgbfonlhaaW.PrintLast Go.Proofs.YtahnodgbfonlhaaW.PrintMore
attribute [local go_sem] max2_int min2_int max_two min_two max_three min_three max_four min_four   -- for this text's walks alone
set_option linter.unusedVariables false
set_option linter.unusedSimpArgs false

/-! ### spec_l01Cur_badMarks: function 66 -/
def spec_l01Cur_badMarks.f (k : Nat) (s0_0 : List Int) (s0_1 : Int) (s0_2 : Int) : Option (Int × (List (S63)) × Int × Int) := (spec_l01Cur_marks.f k s0_0 s0_1 s0_2).bind fun bt207 => ((spec_l01Cur_pick.f s0_0 bt207.2.2.1 bt207.2.2.2 12).bind fun bt214 => (if bt214.1 = 0 then ((spec_l01Cur_raw.f s0_0 bt214.2.1 bt214.2.2).bind fun bt217 => ((some (([bt217.1, wrap64 (bt207.1 + 1), wrap64 (bt207.1 - 1)] : List Int) : List Int)).bind fun y220 => ((spec_l01Cur_pick.f s0_0 bt217.2.1 bt217.2.2 3).bind fun bt223 => (if 0 ≤ bt223.1 then (if bt223.1 < (y220.length : Int) then (some (rd y220 bt223.1, bt207.2.1, bt223.2.1, bt223.2.2)) else (none)) else (none))))) else (if bt214.1 = 1 then ((spec_l01Cur_pick.f s0_0 bt214.2.1 bt214.2.2 (bt207.2.1.length : Int)).bind fun bt227 => ((spec_l01Cur_raw.f s0_0 bt227.2.1 bt227.2.2).bind fun bt230 => ((spec_l01Cur_pick.f s0_0 bt230.2.1 bt230.2.2 40).bind fun bt233 => ((some (([bt230.1, bt233.1, 1000, 1001] : List Int) : List Int)).bind fun y236 => ((spec_l01Cur_pick.f s0_0 bt233.2.1 bt233.2.2 4).bind fun bt239 => (if 0 ≤ bt239.1 then (if bt239.1 < (y236.length : Int) then (if 0 ≤ bt227.1 then (if bt227.1 < (bt207.2.1.length : Int) then (some (bt207.1, (bt207.2.1.set (bt227.1 : Int).toNat (⟨rd y236 bt239.1, (rd_T63 bt207.2.1 bt227.1).f1⟩ : S63)), bt239.2.1, bt239.2.2)) else (none)) else (none)) else (none)) else (none))))))) else (if bt214.1 = 2 then (if bt207.2.1.length + 4 < 8796093022208 then ((some (bt207.2.1 ++ List.replicate 4 z63 : List (S63))).bind fun y244 => ((spec_l01Cur_pick.f s0_0 bt214.2.1 bt214.2.2 6).bind fun bt247 => (if 0 ≤ bt247.1 then (if bt247.1 ≤ (y244.length : Int) then (some (bt207.1, (y244.take (bt247.1 : Int).toNat), bt247.2.1, bt247.2.2)) else (none)) else (none)))) else (none)) else (some (bt207.1, bt207.2.1, bt214.2.1, bt214.2.2))))))
theorem spec_l01Cur_badMarks.mono : ∀ a0 a1 a2 k, LeO (spec_l01Cur_badMarks.f k a0 a1 a2) (spec_l01Cur_badMarks.f (k + 1) a0 a1 a2) := by
 intro a0 a1 a2 k
 unfold spec_l01Cur_badMarks.f
 repeat' first
   | (with_reducible exact spec_l01Cur_marks.mono _ _ _ _)
   | (with_reducible exact LeO.refl _)
   | (with_reducible exact LeO.none _)
   | (with_reducible refine LeO.ite ?_ ?_)
   | (with_reducible refine LeO.bind ?_ (fun _ => ?_))
   | exact spec_l01Cur_marks.mono _ _ _ _
   | exact LeO.none _
   | refine LeO.ite ?_ ?_
   | refine LeO.bind ?_ (fun _ => ?_)
def spec_l01Cur_badMarks.T4 : Bool × List (List Nat × List Nat) := (true, [([], []), ([0], [0]), ([], []), ([2], [2]), ([3], [3]), ([], []), ([5], [5]), ([6], [6]), ([1, 4, 7], [1, 4, 7]), ([], []), ([9, 1], [9]), ([8, 10], [8, 10]), ([11], [11]), ([0, 1, 2, 3, 4, 5, 6, 7, 8, 9, 10, 11, 12], []), ([13, 12, 10, 0, 1, 2, 3, 4, 5, 6, 7, 8, 9, 10, 11, 12], [12, 13])])
def spec_l01Cur_badMarks.B4 : List Nat := [0, 1, 0, 4, 12, 0, 32, 96, 255, 0, 515, 2047, 4095, 8191, 16383]
theorem spec_l01Cur_badMarks.tab4 : rtab .any (opsOf Try.f66 4) = spec_l01Cur_badMarks.T4 := by kernel_rfl
theorem spec_l01Cur_badMarks.bits4 : waitsOk spec_l01Cur_badMarks.T4.2 spec_l01Cur_badMarks.B4 = true := by kernel_rfl
def spec_l01Cur_badMarks.T6 : Bool × List (List Nat × List Nat) := (true, [([], []), ([0], [0]), ([], []), ([], []), ([3], [3]), ([4], [4]), ([2, 5], [2, 5]), ([], []), ([7, 6], [7]), ([], []), ([9, 8], [9]), ([8, 10], [8, 10]), ([], []), ([12, 10], [12]), ([11, 13], [11, 13]), ([14], [14]), ([1, 6, 0, 1, 2, 3, 4, 5, 6, 7, 8, 9, 10, 11, 12, 13, 14, 15], [1, 6]), ([16, 0, 1, 2, 3, 4, 5, 6, 7, 8, 9, 10, 11, 12, 13, 14, 15], [16]), ([17, 15, 13, 0, 1, 2, 3, 4, 5, 6, 7, 8, 9, 10, 11, 12, 13, 14, 15], [15, 17])])
def spec_l01Cur_badMarks.B6 : List Nat := [0, 1, 0, 0, 8, 24, 60, 0, 252, 0, 1020, 2044, 0, 6140, 16380, 32764, 65535, 131071, 262143]
theorem spec_l01Cur_badMarks.tab6 : rtab .any (opsOf Try.f66 6) = spec_l01Cur_badMarks.T6 := by kernel_rfl
theorem spec_l01Cur_badMarks.bits6 : waitsOk spec_l01Cur_badMarks.T6.2 spec_l01Cur_badMarks.B6 = true := by kernel_rfl
set_option maxHeartbeats 8000000 in
set_option maxRecDepth 100000 in
theorem spec_l01Cur_badMarks.calls (k : Nat) (g : Nat) (s0_0 : List Int) (s0_1 : Int) (s0_2 : Int) (r1 : Int) (r2 : List (S63)) (r3 : Int) (r4 : Int) (w0 w : World) (hI : IsS102 w0 w g s0_0 s0_1 s0_2) (hB : Below w0.heap.size w0 w) (h : spec_l01Cur_badMarks.f k s0_0 s0_1 s0_2 = some (r1, r2, r3, r4)) :
  Calls Try.prog 66 #[.pointer (some ⟨g, 0, none⟩)] w fun e w' => ∃ v1_ : Value, e = .returned (.agg #[.int .i64 r1, v1_]) ∧ Kd.R k63 63 w' w.heap.size (fun _ => True) v1_ r2 ∧ IsS102 w0 w' g s0_0 r3 r4 ∧ Below w0.heap.size w0 w' ∧ KeepBut w w' g none := by
 have hu53 := Try.underlying53
 have HI0 := Aside0.mk hI
 have HK := Aside0.mk (KeepBut.refl w g none)
 have HL := Aside0.mk hB.size
 clear hI
 have HW0 := Aside0.mk hB.size
 have HB := Aside0.mk hB
 clear hB
 have H : ((spec_l01Cur_marks.f k s0_0 s0_1 s0_2).bind fun bt207 => ((spec_l01Cur_pick.f s0_0 bt207.2.2.1 bt207.2.2.2 12).bind fun bt214 => (if bt214.1 = 0 then ((spec_l01Cur_raw.f s0_0 bt214.2.1 bt214.2.2).bind fun bt217 => ((some (([bt217.1, wrap64 (bt207.1 + 1), wrap64 (bt207.1 - 1)] : List Int) : List Int)).bind fun y220 => ((spec_l01Cur_pick.f s0_0 bt217.2.1 bt217.2.2 3).bind fun bt223 => (if 0 ≤ bt223.1 then (if bt223.1 < (y220.length : Int) then (some (rd y220 bt223.1, bt207.2.1, bt223.2.1, bt223.2.2)) else (none)) else (none))))) else (if bt214.1 = 1 then ((spec_l01Cur_pick.f s0_0 bt214.2.1 bt214.2.2 (bt207.2.1.length : Int)).bind fun bt227 => ((spec_l01Cur_raw.f s0_0 bt227.2.1 bt227.2.2).bind fun bt230 => ((spec_l01Cur_pick.f s0_0 bt230.2.1 bt230.2.2 40).bind fun bt233 => ((some (([bt230.1, bt233.1, 1000, 1001] : List Int) : List Int)).bind fun y236 => ((spec_l01Cur_pick.f s0_0 bt233.2.1 bt233.2.2 4).bind fun bt239 => (if 0 ≤ bt239.1 then (if bt239.1 < (y236.length : Int) then (if 0 ≤ bt227.1 then (if bt227.1 < (bt207.2.1.length : Int) then (some (bt207.1, (bt207.2.1.set (bt227.1 : Int).toNat (⟨rd y236 bt239.1, (rd_T63 bt207.2.1 bt227.1).f1⟩ : S63)), bt239.2.1, bt239.2.2)) else (none)) else (none)) else (none)) else (none))))))) else (if bt214.1 = 2 then (if bt207.2.1.length + 4 < 8796093022208 then ((some (bt207.2.1 ++ List.replicate 4 z63 : List (S63))).bind fun y244 => ((spec_l01Cur_pick.f s0_0 bt214.2.1 bt214.2.2 6).bind fun bt247 => (if 0 ≤ bt247.1 then (if bt247.1 ≤ (y244.length : Int) then (some (bt207.1, (y244.take (bt247.1 : Int).toNat), bt247.2.1, bt247.2.2)) else (none)) else (none)))) else (none)) else (some (bt207.1, bt207.2.1, bt214.2.1, bt214.2.2))))))) = some (r1, r2, r3, r4) := h
 clear h
 replace H := Option.bind_eq_some_iff.mp H
 obtain ⟨⟨t207, t208, t211, t212⟩, A20, H⟩ := H
 replace H : ((spec_l01Cur_pick.f s0_0 t211 t212 12).bind fun bt214 => (if bt214.1 = 0 then ((spec_l01Cur_raw.f s0_0 bt214.2.1 bt214.2.2).bind fun bt217 => ((some (([bt217.1, wrap64 (t207 + 1), wrap64 (t207 - 1)] : List Int) : List Int)).bind fun y220 => ((spec_l01Cur_pick.f s0_0 bt217.2.1 bt217.2.2 3).bind fun bt223 => (if 0 ≤ bt223.1 then (if bt223.1 < (y220.length : Int) then (some (rd y220 bt223.1, t208, bt223.2.1, bt223.2.2)) else (none)) else (none))))) else (if bt214.1 = 1 then ((spec_l01Cur_pick.f s0_0 bt214.2.1 bt214.2.2 (t208.length : Int)).bind fun bt227 => ((spec_l01Cur_raw.f s0_0 bt227.2.1 bt227.2.2).bind fun bt230 => ((spec_l01Cur_pick.f s0_0 bt230.2.1 bt230.2.2 40).bind fun bt233 => ((some (([bt230.1, bt233.1, 1000, 1001] : List Int) : List Int)).bind fun y236 => ((spec_l01Cur_pick.f s0_0 bt233.2.1 bt233.2.2 4).bind fun bt239 => (if 0 ≤ bt239.1 then (if bt239.1 < (y236.length : Int) then (if 0 ≤ bt227.1 then (if bt227.1 < (t208.length : Int) then (some (t207, (t208.set (bt227.1 : Int).toNat (⟨rd y236 bt239.1, (rd_T63 t208 bt227.1).f1⟩ : S63)), bt239.2.1, bt239.2.2)) else (none)) else (none)) else (none)) else (none))))))) else (if bt214.1 = 2 then (if t208.length + 4 < 8796093022208 then ((some (t208 ++ List.replicate 4 z63 : List (S63))).bind fun y244 => ((spec_l01Cur_pick.f s0_0 bt214.2.1 bt214.2.2 6).bind fun bt247 => (if 0 ≤ bt247.1 then (if bt247.1 ≤ (y244.length : Int) then (some (t207, (y244.take (bt247.1 : Int).toNat), bt247.2.1, bt247.2.2)) else (none)) else (none)))) else (none)) else (some (t207, t208, bt214.2.1, bt214.2.2)))))) = some (r1, r2, r3, r4) := H
 have A2 := Aside0.mk A20
 clear A20
 replace H := Option.bind_eq_some_iff.mp H
 obtain ⟨⟨t214, t215, t216⟩, A30, H⟩ := H
 replace H : (if t214 = 0 then ((spec_l01Cur_raw.f s0_0 t215 t216).bind fun bt217 => ((some (([bt217.1, wrap64 (t207 + 1), wrap64 (t207 - 1)] : List Int) : List Int)).bind fun y220 => ((spec_l01Cur_pick.f s0_0 bt217.2.1 bt217.2.2 3).bind fun bt223 => (if 0 ≤ bt223.1 then (if bt223.1 < (y220.length : Int) then (some (rd y220 bt223.1, t208, bt223.2.1, bt223.2.2)) else (none)) else (none))))) else (if t214 = 1 then ((spec_l01Cur_pick.f s0_0 t215 t216 (t208.length : Int)).bind fun bt227 => ((spec_l01Cur_raw.f s0_0 bt227.2.1 bt227.2.2).bind fun bt230 => ((spec_l01Cur_pick.f s0_0 bt230.2.1 bt230.2.2 40).bind fun bt233 => ((some (([bt230.1, bt233.1, 1000, 1001] : List Int) : List Int)).bind fun y236 => ((spec_l01Cur_pick.f s0_0 bt233.2.1 bt233.2.2 4).bind fun bt239 => (if 0 ≤ bt239.1 then (if bt239.1 < (y236.length : Int) then (if 0 ≤ bt227.1 then (if bt227.1 < (t208.length : Int) then (some (t207, (t208.set (bt227.1 : Int).toNat (⟨rd y236 bt239.1, (rd_T63 t208 bt227.1).f1⟩ : S63)), bt239.2.1, bt239.2.2)) else (none)) else (none)) else (none)) else (none))))))) else (if t214 = 2 then (if t208.length + 4 < 8796093022208 then ((some (t208 ++ List.replicate 4 z63 : List (S63))).bind fun y244 => ((spec_l01Cur_pick.f s0_0 t215 t216 6).bind fun bt247 => (if 0 ≤ bt247.1 then (if bt247.1 ≤ (y244.length : Int) then (some (t207, (y244.take (bt247.1 : Int).toNat), bt247.2.1, bt247.2.2)) else (none)) else (none)))) else (none)) else (some (t207, t208, t215, t216))))) = some (r1, r2, r3, r4) := H
 have A3 := Aside0.mk A30
 clear A30
 by_cases c4 : t214 = 0
 ·rw [if_pos c4] at H
  have c4b0 : (t214 == 0) = true := beq_iff_eq.mpr c4
  have c4b1 : (t214 != 0) = false := bne_eq_false_iff_eq.mpr c4
  clear c4
  replace H := Option.bind_eq_some_iff.mp H
  obtain ⟨⟨t217, t218, t219⟩, A50, H⟩ := H
  replace H : ((some (([t217, wrap64 (t207 + 1), wrap64 (t207 - 1)] : List Int) : List Int)).bind fun y220 => ((spec_l01Cur_pick.f s0_0 t218 t219 3).bind fun bt223 => (if 0 ≤ bt223.1 then (if bt223.1 < (y220.length : Int) then (some (rd y220 bt223.1, t208, bt223.2.1, bt223.2.2)) else (none)) else (none)))) = some (r1, r2, r3, r4) := H
  have A5 := Aside0.mk A50
  clear A50
  obtain ⟨y220, hy220⟩ : ∃ y_ : List Int, y_ = (([t217, wrap64 (t207 + 1), wrap64 (t207 - 1)] : List Int)) := ⟨_, rfl⟩
  replace H : ((spec_l01Cur_pick.f s0_0 t218 t219 3).bind fun bt223 => (if 0 ≤ bt223.1 then (if bt223.1 < (y220.length : Int) then (some (rd y220 bt223.1, t208, bt223.2.1, bt223.2.2)) else (none)) else (none))) = some (r1, r2, r3, r4) := by first | (rw [hy220]; with_reducible exact H) | (have H2_ := (Option.bind_some _ _).symm.trans H; rw [hy220]; with_reducible exact H2_) | (have H2_ := (Option.bind_some _ _).symm.trans H; with_reducible exact H2_) | with_reducible exact H | (rw [hy220]; exact H) | exact H
  have Ny220 := Aside0.mk hy220
  clear hy220
  replace H := Option.bind_eq_some_iff.mp H
  obtain ⟨⟨t223, t224, t225⟩, A60, H⟩ := H
  replace H : (if 0 ≤ t223 then (if t223 < (y220.length : Int) then (some (rd y220 t223, t208, t224, t225)) else (none)) else (none)) = some (r1, r2, r3, r4) := H
  have A6 := Aside0.mk A60
  clear A60
  by_cases c7 : 0 ≤ t223
  ·rw [if_pos c7] at H
   have c7b0 : decide (0 ≤ t223) = true := decide_eq_true c7
   clear c7
   by_cases c8 : t223 < (y220.length : Int)
   ·rw [if_pos c8] at H
    have c8b0 : decide (t223 < (y220.length : Int)) = true := decide_eq_true c8
    clear c8
    simp only [Option.some.injEq, Prod.mk.injEq] at H
    obtain ⟨rfl, rfl, rfl, rfl⟩ := H
    go_enter Try.func66, Try.ntmps66
    try go_wp2_with (first | ((with_reducible refine gate_dst (N := 2) rfl ?_); refine box_event ?hg (N := 2) ?hd (cs := #[.int .i64 0, .slice none 0 0]) (t := 53) ?hr ?_; (case hd => rfl); (case hg => rfl); (case hr => first | (go_simp; done) | (go_simp; rfl)); intro gb206 hg w9 hbox hb; have n0_ := Aside0.mk (IsS102.below (zb6) hb); have n1_ := Aside0.mk (KeepBut.trans (zb8) (KeepBut.of_below hb g none) (.inl rfl)); have n2_ := Aside0.mk (below_step (zb7) hb); have n3_ := Aside0.mk (hbox); have n4_ := Aside0.mk ((by rw [hg]; exact (keep_size (w := w) (g := g) (row := none) (zb8)) : w.heap.size ≤ gb206)); have n5_ := Aside0.mk ((Nat.le_trans HW0.out (by rw [hg]; exact (keep_size (w := w) (g := g) (row := none) (zb8)) : w.heap.size ≤ gb206) : w0.heap.size ≤ gb206)); have n6_ := Aside0.mk ((by rw [hg]; exact Nat.ne_of_lt (IsS102.lt (show IsS102 w0 _ g s0_0 s0_1 s0_2 from zb6)) : g ≠ gb206)); have n7_ := Aside0.mk ((by rw [hg]; exact Nat.ne_of_gt (IsS102.lt (show IsS102 w0 _ g s0_0 s0_1 s0_2 from zb6)) : gb206 ≠ g)); clear HI0; clear HK; clear HB; have HI0 := n0_; have HK := n1_; have HB := n2_; have BK206 := n3_; have GW206 := n4_; have GE206 := n5_; have NB0_206 := n6_; have NB206_0 := n7_; clear n0_ n1_ n2_ n3_ n4_ n5_ n6_ n7_; clear hb hbox hg) | ((with_reducible refine gate_callee (f := 84) rfl ?_); refine goesL_ (some 5) rfl rfl Try.func84 (by kernel_rfl) rfl #[.pointer (some ⟨g, 0, none⟩)] rfl (zb10) ?_; (with_reducible refine (spec_l01Cur_marks.calls k g s0_0 s0_1 s0_2 t207 t208 t211 t212 w0 _ ?side1 ?side2 A2.out).mono ?_); (case side1 => exact zb75); (case side2 => exact zb76); rintro e w10 ⟨v209, rfl, ho0, hi, hb, hk⟩; refine ⟨_, rfl, ?_⟩; have n0_ := Aside0.mk (KeepBut.blk hk (g' := gb206) (o := .cells #[.int .i64 0, .slice none 0 0] 53 (0, 0)) (zb77) NB206_0.out (by simp)); have n1_ := Aside0.mk (Kd.R_lower ho0 (keep_size (w := w) (g := g) (row := none) (zb78))); have n2_ := Aside0.mk (KeepBut.trans (zb78) hk (.inl rfl)); have n3_ := Aside0.mk (hb); have n4_ := Aside0.mk (hi); clear BK206; clear HK; clear HB; clear HI0; have BK206 := n0_; have HO210 := n1_; have HK := n2_; have HB := n3_; have HI0 := n4_; clear n0_ n1_ n2_ n3_ n4_; (try clear hb); (try clear hb2); (try clear hk); (try clear hi); (try clear ho0)) | ((with_reducible refine gate_dst (N := 3) rfl ?_); refine box_event ?hg (N := 3) ?hd (cs := #[.int .i64 0, .slice none 0 0]) (t := 53) ?hr ?_; (case hd => rfl); (case hg => rfl); (case hr => first | (go_simp; done) | (go_simp; rfl)); intro gb213 hg w11 hbox hb; have n0_ := Aside0.mk (Kd.R_below (zb79) hb); have n1_ := Aside0.mk (IsS102.below (zb80) hb); have n2_ := Aside0.mk (blk_below (g := gb206) (o := .cells #[.int .i64 0, .slice none 0 0] 53 (0, 0)) (zb77) hb); have n3_ := Aside0.mk (KeepBut.trans (zb78) (KeepBut.of_below hb g none) (.inl rfl)); have n4_ := Aside0.mk (below_step (zb81) hb); have n5_ := Aside0.mk (hbox); have n6_ := Aside0.mk ((by rw [hg]; exact (keep_size (w := w) (g := g) (row := none) (zb78)) : w.heap.size ≤ gb213)); have n7_ := Aside0.mk ((Nat.le_trans HW0.out (by rw [hg]; exact (keep_size (w := w) (g := g) (row := none) (zb78)) : w.heap.size ≤ gb213) : w0.heap.size ≤ gb213)); have n8_ := Aside0.mk ((by rw [hg]; exact Nat.ne_of_lt (blk_lt (g := gb206) (o := .cells #[.int .i64 0, .slice none 0 0] 53 (0, 0)) (zb77)) : gb206 ≠ gb213)); have n9_ := Aside0.mk ((by rw [hg]; exact Nat.ne_of_gt (blk_lt (g := gb206) (o := .cells #[.int .i64 0, .slice none 0 0] 53 (0, 0)) (zb77)) : gb213 ≠ gb206)); have n10_ := Aside0.mk ((by rw [hg]; exact Nat.ne_of_lt (IsS102.lt (show IsS102 w0 _ g s0_0 t211 t212 from zb80)) : g ≠ gb213)); have n11_ := Aside0.mk ((by rw [hg]; exact Nat.ne_of_gt (IsS102.lt (show IsS102 w0 _ g s0_0 t211 t212 from zb80)) : gb213 ≠ g)); clear HO210; clear HI0; clear BK206; clear HK; clear HB; have HO210 := n0_; have HI0 := n1_; have BK206 := n2_; have HK := n3_; have HB := n4_; have BK213 := n5_; have GW213 := n6_; have GE213 := n7_; have NB206_213 := n8_; have NB213_206 := n9_; have NB0_213 := n10_; have NB213_0 := n11_; clear n0_ n1_ n2_ n3_ n4_ n5_ n6_ n7_ n8_ n9_ n10_ n11_; clear hb hbox hg; have hnb12 := NB213_206.out; have hnc12 := NB206_213.out; have hnb13 := NB213_0.out; have hnc13 := NB0_213.out; have hcz14_0 : w11.cell? ⟨gb213, 0, none⟩ = some (.int .i64 0) := (blk_cell BK213.out 0).trans rfl; have hcz14_1 : w11.cell? ⟨gb213, 1, none⟩ = some (.slice none 0 0) := (blk_cell BK213.out 1).trans rfl; have hfz14_0 := blk_frozen BK213.out 0; have hfz14_1 := blk_frozen BK213.out 1; obtain ⟨Ao15, co15, eo15⟩ := Kd.R_slice HO210.out; subst eo15) | ((with_reducible refine gate_callee (f := 67) rfl ?_); refine goesL_ (some 7) rfl rfl Try.func67 (by kernel_rfl) rfl #[.pointer (some ⟨g, 0, none⟩), .int .i64 12] rfl (zb10) ?_; (with_reducible refine (spec_l01Cur_pick.calls g s0_0 t211 t212 12 t214 t215 t216 w0 _ ?side1 ?side2 A3.out).mono ?_); (case side1 => exact zb82); (case side2 => exact zb83); rintro e w16 ⟨rfl, hi, hb, hk⟩; refine ⟨_, rfl, ?_⟩; have n0_ := Aside0.mk (KeepBut.blk hk (g' := gb206) (o := .cells #[.int .i64 0, .slice none 0 0] 53 (0, 0)) (zb84) NB206_0.out (by simp)); have n1_ := Aside0.mk (Kd.R_mono (Kd.R_keep (IsS102.apart (show IsS102 w0 _ g s0_0 t211 t212 from zb85) (by (with_reducible repeat (first | apply Kd.R_alloc | apply Kd.R_drewN | apply Kd.R_drew)); exact (Kd.R_mono (Kd.R_far (p := ⟨gb213, 1, none⟩) (Kd.R_far (p := ⟨gb213, 0, none⟩) (Kd.R_types HO210.out BK213.out (by decide)) (fun _ hk => hk.2) (.int .i64 t207)) (fun _ hk => hk.2) (.slice Ao15 t208.length co15)) (fun _ h_ => h_.1))) (by decide)) hk (fun _ h => h.2)) (fun _ h => h.1)); have n2_ := Aside0.mk (KeepBut.blk hk (g' := gb213) (o := .cells #[.int .i64 t207, .slice Ao15 t208.length co15] 53 (0, 0)) (zb86) NB213_0.out (by simp)); have n3_ := Aside0.mk (KeepBut.trans (zb87) hk (.inl rfl)); have n4_ := Aside0.mk (hb); have n5_ := Aside0.mk (hi); clear BK206; clear HO210; clear BK213; clear HK; clear HB; clear HI0; have BK206 := n0_; have HO210 := n1_; have BK213 := n2_; have HK := n3_; have HB := n4_; have HI0 := n5_; clear n0_ n1_ n2_ n3_ n4_ n5_; (try clear hb); (try clear hb2); (try clear hk); (try clear hi)))
    have pi226 : (0 ≤ (t223 : Int)) = True := eq_true (of_decide_eq_true (zb9))
    have qi226 : (t223 < (y220.length : Int)) = True := eq_true (of_decide_eq_true (zb9))
    have n0_ := Aside0.mk (Kd.R_drew HO210.out)
    have n1_ := Aside0.mk (blk_drew BK206.out)
    have n2_ := Aside0.mk (blk_drew BK213.out)
    have n3_ := Aside0.mk (IsS102.drew HI0.out)
    have n4_ := Aside0.mk (keep_drew HK.out)
    have n5_ := Aside0.mk (below_drew1 HB.out)
    clear HO210
    clear BK206
    clear BK213
    clear HI0
    clear HK
    clear HB
    have HO210 := n0_
    have BK206 := n1_
    have BK213 := n2_
    have HI0 := n3_
    have HK := n4_
    have HB := n5_
    clear n0_ n1_ n2_ n3_ n4_ n5_
    refine start_ (n := 15) (S := fun w' => w'.cell? ⟨gb213, 0, none⟩ = some (.int .i64 t207) ∧ w'.cell? ⟨gb213, 1, none⟩ = some (.slice Ao15 t208.length co15)) (ds := [14]) #[false, false, false, false, false, false, false, false, false, false, false, false, false, false, false] (by kernel_rfl) rfl rfl ⟨(blk_cell BK213.out 0).trans rfl, (blk_cell BK213.out 1).trans rfl⟩ (fun hHeld => ?_); refine with_tabW spec_l01Cur_badMarks.tab4 spec_l01Cur_badMarks.bits4 (fun HT_ HW_ => ?_)
    generalize w16.drew = w17 at HO210 BK206 BK213 HI0 HK HB hHeld ⊢
    refine pz 0 10 (bz 15 1) rfl rfl ?_
    refine pz 2 12 (bz 15 5) rfl rfl ?_
    refine pz 5 15 (bz 15 37) rfl rfl ?_
    refine pz 9 19 (bz 15 549) rfl rfl ?_
    refine tz 3 13 (bz 15 557) rfl rfl (Or.inl ⟨by rfl, by rintro w' ⟨s0, s1⟩; go_simp; with_reducible rfl⟩) hHeld ?_
    refine pz 4 14 (bz 15 573) rfl rfl ?_
    refine tz 6 16 (bz 15 637) rfl rfl (Or.inl ⟨by rfl, by rintro w' ⟨s0, s1⟩; go_simp; with_reducible rfl⟩) hHeld ?_
    refine pz 7 17 (bz 15 765) rfl rfl ?_
    refine one_ (i := 1) (N := some 11) (bz 15 767) rfl rfl (one_of HT_.out (by kernel_rfl)) (by decide) (fun K hK => ?_)
    refine goes_ Try.func47 (by kernel_rfl) rfl #[.pointer (some ⟨g, 0, none⟩)] (by rfl) rfl rfl (zb10) ?_
    with_reducible refine (spec_l01Cur_raw.calls g s0_0 t215 t216 t217 t218 t219 w0 _ ?side1 ?side2 A5.out).mono ?_
    (case side1 => exact zb82)
    (case side2 => exact zb83)
    rintro e w18 ⟨rfl, hi, hb, hk⟩
    refine ⟨_, rfl, ?_⟩
    have n0_ := Aside0.mk (KeepBut.blk hk (g' := gb206) (o := .cells #[.int .i64 0, .slice none 0 0] 53 (0, 0)) (zb77) NB206_0.out (by simp))
    have n1_ := Aside0.mk (Kd.R_mono (Kd.R_keep (IsS102.apart (show IsS102 w0 _ g s0_0 t215 t216 from zb85) (zb79) (by decide)) hk (fun _ h => h.2)) (fun _ h => h.1))
    have n2_ := Aside0.mk (KeepBut.blk hk (g' := gb213) (o := .cells #[.int .i64 t207, .slice Ao15 t208.length co15] 53 (0, 0)) (zb88) NB213_0.out (by simp))
    have n3_ := Aside0.mk (KeepBut.trans (zb87) hk (.inl rfl))
    have n4_ := Aside0.mk (hb)
    have n5_ := Aside0.mk (hi)
    clear BK206
    clear HO210
    clear BK213
    clear HK
    clear HB
    clear HI0
    have BK206 := n0_
    have HO210 := n1_
    have BK213 := n2_
    have HK := n3_
    have HB := n4_
    have HI0 := n5_
    clear n0_ n1_ n2_ n3_ n4_ n5_
    (try clear hb)
    (try clear hb2)
    (try clear hk)
    (try clear hi)
    refine hK.out _ _ ⟨(blk_cell BK213.out 0).trans rfl, (blk_cell BK213.out 1).trans rfl⟩ (fun hHeld => ?_)
    clear hK K
    refine norm_ (a' := ?_) ?_ ?_
    rotate_left
    ·show Act.put _ (some 11) _ = _
     simp only [Act.put, List.setIfInBounds_toArray, List.set_cons_zero, List.set_cons_succ, i64_w, i32_w]
     rfl
    refine join_ (σ := Value × Addr) 4 #[true, true, true, true, true, true, true, true, true, true, true, false, false, false, false] (fun s_ => [(18, s_.1), (20, .int .i64 t223)]) (fun s_ w' => (w'.cell? ⟨gb213, 0, none⟩ = some (.int .i64 t207) ∧ w'.cell? ⟨gb213, 1, none⟩ = some (.slice Ao15 t208.length co15)) ∧ (Kd.R k63 63 w' w.heap.size (fun _ => True) (.slice Ao15 t208.length co15) t208) ∧ (Kd.R (Kd.int .i64) 3 w' w.heap.size (fun _ => True) s_.1 y220) ∧ (∃ c_, (s_.1 : Value) = .slice (some s_.2) y220.length c_) ∧ (w'.heap[gb206]? = some (.cells #[.int .i64 0, .slice none 0 0] 53 (0, 0))) ∧ (w'.heap[gb213]? = some (.cells #[.int .i64 t207, .slice Ao15 t208.length co15] 53 (0, 0))) ∧ (IsS102 w0 w' g s0_0 t224 t225) ∧ (KeepBut w w' g none) ∧ (Below w0.heap.size w0 w')) ?_ ?_
    rotate_left
    ·intro hCont
     refine two_ (i := 8) (j := 10) (Ni := some 18) (Nj := some 20) #[true, true, true, true, true, true, true, true, true, true, false, false, false, false, false] #[true, true, true, true, true, true, true, true, false, true, true, false, false, false, false] rfl rfl rfl rfl (two_of HT_.out (by kernel_rfl)) (by decide) (by decide) (fun K hK => ?_) (fun K hK => ?_)
     ·skip
      refine Kd.R_lit_step (Kd.int .i64) _ 3 ?hg (N := 18) ?hd (xs := ([t217, wrap64 (t207 + 1), wrap64 (t207 - 1)] : List Int)) (inner := [.int .i64 t217, .int .i64 (wrap64 (t207 + 1)), .int .i64 (wrap64 (t207 - 1))]) (ok := fun _ => True) (okp := fun _ => True) ?hr ?hp (fun _ hk => hk) trivial (Below.refl _ _) (Nat.le_refl _) (by simp) ?_; (case hd => rfl); (case hg => rfl); (case hr => first | (go_simp; done) | (go_simp; rfl)); (case hp => exact (Reps.one (show Kd.M (Kd.int .i64) _ _ _ t217 [.int .i64 t217] from rfl) (Reps.one (show Kd.M (Kd.int .i64) _ _ _ (wrap64 (t207 + 1)) [.int .i64 (wrap64 (t207 + 1))] from rfl) (Reps.one (show Kd.M (Kd.int .i64) _ _ _ (wrap64 (t207 - 1)) [.int .i64 (wrap64 (t207 - 1))] from rfl) (Reps.none _ _)))))
      intro v221 w19 ho20 hb hg_ hnew_
      clear hg_ hnew_
      (first | rw [← Ny220.out] at ho20 | (simp only [Int.reduceToNat] at ho20; rw [← Ny220.out] at ho20))
      have n0_ := Aside0.mk (Kd.R_below (zb79) hb)
      have n1_ := Aside0.mk (Kd.R_lower ho20 (keep_size (w := w) (g := g) (row := none) (zb87)))
      have n2_ := Aside0.mk (IsS102.below (zb85) hb)
      have n3_ := Aside0.mk (blk_below (g := gb206) (o := .cells #[.int .i64 0, .slice none 0 0] 53 (0, 0)) (zb77) hb)
      have n4_ := Aside0.mk (blk_below (g := gb213) (o := .cells #[.int .i64 t207, .slice Ao15 t208.length co15] 53 (0, 0)) (zb88) hb)
      have n5_ := Aside0.mk (KeepBut.trans (zb87) (KeepBut.of_below hb g none) (.inl rfl))
      have n6_ := Aside0.mk (below_step (zb89) hb)
      clear HO210
      clear HI0
      clear BK206
      clear BK213
      clear HK
      clear HB
      have HO210 := n0_
      have HO222 := n1_
      have HI0 := n2_
      have BK206 := n3_
      have BK213 := n4_
      have HK := n5_
      have HB := n6_
      clear n0_ n1_ n2_ n3_ n4_ n5_ n6_
      clear hb ho20
      obtain ⟨Ao21, co21, eo21⟩ := Kd.R_slice HO222.out
      subst eo21
      obtain ⟨ado21, fo21, _⟩ := Kd.at_int (Kd.R_reads' HO222.out).2.2 0 (by decide) (by rw [Ny220.out]; simp)
      cases fo21
      refine hK.out _ _ ⟨(blk_cell BK213.out 0).trans rfl, (blk_cell BK213.out 1).trans rfl⟩ (fun hHeld => ?_)
      clear hK K
      refine norm_ (a' := ?_) ?_ ?_
      rotate_left
      ·show Act.put _ (some 18) _ = _
       simp only [Act.put, List.setIfInBounds_toArray, List.set_cons_zero, List.set_cons_succ, i64_w, i32_w]
       rfl
      refine one_ (i := 10) (N := some 20) (bz 15 2047) rfl rfl (one_of HT_.out (by kernel_rfl)) (by decide) (fun K hK => ?_)
      refine goes_ Try.func67 (by kernel_rfl) rfl #[.pointer (some ⟨g, 0, none⟩), .int .i64 3] (by rfl) rfl rfl (zb10) ?_
      with_reducible refine (spec_l01Cur_pick.calls g s0_0 t218 t219 3 t223 t224 t225 w0 _ ?side1 ?side2 A6.out).mono ?_
      (case side1 => exact zb82)
      (case side2 => exact zb83)
      rintro e w22 ⟨rfl, hi, hb, hk⟩
      refine ⟨_, rfl, ?_⟩
      have n0_ := Aside0.mk (KeepBut.blk hk (g' := gb206) (o := .cells #[.int .i64 0, .slice none 0 0] 53 (0, 0)) (zb77) NB206_0.out (by simp))
      have n1_ := Aside0.mk (Kd.R_mono (Kd.R_keep (IsS102.apart (show IsS102 w0 _ g s0_0 t218 t219 from zb85) (zb79) (by decide)) hk (fun _ h => h.2)) (fun _ h => h.1))
      have n2_ := Aside0.mk (KeepBut.blk hk (g' := gb213) (o := .cells #[.int .i64 t207, .slice Ao15 t208.length co15] 53 (0, 0)) (zb88) NB213_0.out (by simp))
      have n3_ := Aside0.mk (Kd.R_mono (Kd.R_keep (IsS102.apart (show IsS102 w0 _ g s0_0 t218 t219 from zb85) (zb90) (by decide)) hk (fun _ h => h.2)) (fun _ h => h.1))
      have n4_ := Aside0.mk (KeepBut.trans (zb87) hk (.inl rfl))
      have n5_ := Aside0.mk (hb)
      have n6_ := Aside0.mk (hi)
      clear BK206
      clear HO210
      clear BK213
      clear HO222
      clear HK
      clear HB
      clear HI0
      have BK206 := n0_
      have HO210 := n1_
      have BK213 := n2_
      have HO222 := n3_
      have HK := n4_
      have HB := n5_
      have HI0 := n6_
      clear n0_ n1_ n2_ n3_ n4_ n5_ n6_
      (try clear hb)
      (try clear hb2)
      (try clear hk)
      (try clear hi)
      refine hK.out _ _ ⟨(blk_cell BK213.out 0).trans rfl, (blk_cell BK213.out 1).trans rfl⟩ (fun hHeld => ?_)
      clear hK K
      refine norm_ (a' := ?_) ?_ ?_
      rotate_left
      ·show Act.put _ (some 20) _ = _
       simp only [Act.put, List.setIfInBounds_toArray, List.set_cons_zero, List.set_cons_succ, i64_w, i32_w]
       rfl
      exact norm_ (zb31) (hCont (.slice (some ado21) y220.length co21, ado21) _ ⟨hHeld, (zb79), (zb90), ⟨_, rfl⟩, (zb77), (zb88), (zb85), (zb87), (zb89)⟩)
     ·skip
      refine goes_ Try.func67 (by kernel_rfl) rfl #[.pointer (some ⟨g, 0, none⟩), .int .i64 3] (by rfl) rfl rfl (zb10) ?_
      with_reducible refine (spec_l01Cur_pick.calls g s0_0 t218 t219 3 t223 t224 t225 w0 _ ?side1 ?side2 A6.out).mono ?_
      (case side1 => exact zb82)
      (case side2 => exact zb83)
      rintro e w19 ⟨rfl, hi, hb, hk⟩
      refine ⟨_, rfl, ?_⟩
      have n0_ := Aside0.mk (KeepBut.blk hk (g' := gb206) (o := .cells #[.int .i64 0, .slice none 0 0] 53 (0, 0)) (zb77) NB206_0.out (by simp))
      have n1_ := Aside0.mk (Kd.R_mono (Kd.R_keep (IsS102.apart (show IsS102 w0 _ g s0_0 t218 t219 from zb85) (zb79) (by decide)) hk (fun _ h => h.2)) (fun _ h => h.1))
      have n2_ := Aside0.mk (KeepBut.blk hk (g' := gb213) (o := .cells #[.int .i64 t207, .slice Ao15 t208.length co15] 53 (0, 0)) (zb88) NB213_0.out (by simp))
      have n3_ := Aside0.mk (KeepBut.trans (zb87) hk (.inl rfl))
      have n4_ := Aside0.mk (hb)
      have n5_ := Aside0.mk (hi)
      clear BK206
      clear HO210
      clear BK213
      clear HK
      clear HB
      clear HI0
      have BK206 := n0_
      have HO210 := n1_
      have BK213 := n2_
      have HK := n3_
      have HB := n4_
      have HI0 := n5_
      clear n0_ n1_ n2_ n3_ n4_ n5_
      (try clear hb)
      (try clear hb2)
      (try clear hk)
      (try clear hi)
      refine hK.out _ _ ⟨(blk_cell BK213.out 0).trans rfl, (blk_cell BK213.out 1).trans rfl⟩ (fun hHeld => ?_)
      clear hK K
      refine norm_ (a' := ?_) ?_ ?_
      rotate_left
      ·show Act.put _ (some 20) _ = _
       simp only [Act.put, List.setIfInBounds_toArray, List.set_cons_zero, List.set_cons_succ, i64_w, i32_w]
       rfl
      refine one_ (i := 8) (N := some 18) (bz 15 2047) rfl rfl (one_of HT_.out (by kernel_rfl)) (by decide) (fun K hK => ?_)
      refine Kd.R_lit_step (Kd.int .i64) _ 3 ?hg (N := 18) ?hd (xs := ([t217, wrap64 (t207 + 1), wrap64 (t207 - 1)] : List Int)) (inner := [.int .i64 t217, .int .i64 (wrap64 (t207 + 1)), .int .i64 (wrap64 (t207 - 1))]) (ok := fun _ => True) (okp := fun _ => True) ?hr ?hp (fun _ hk => hk) trivial (Below.refl _ _) (Nat.le_refl _) (by simp) ?_; (case hd => rfl); (case hg => rfl); (case hr => first | (go_simp; done) | (go_simp; rfl)); (case hp => exact (Reps.one (show Kd.M (Kd.int .i64) _ _ _ t217 [.int .i64 t217] from rfl) (Reps.one (show Kd.M (Kd.int .i64) _ _ _ (wrap64 (t207 + 1)) [.int .i64 (wrap64 (t207 + 1))] from rfl) (Reps.one (show Kd.M (Kd.int .i64) _ _ _ (wrap64 (t207 - 1)) [.int .i64 (wrap64 (t207 - 1))] from rfl) (Reps.none _ _)))))
      intro v221 w20 ho21 hb hg_ hnew_
      clear hg_ hnew_
      (first | rw [← Ny220.out] at ho21 | (simp only [Int.reduceToNat] at ho21; rw [← Ny220.out] at ho21))
      have n0_ := Aside0.mk (Kd.R_below (zb79) hb)
      have n1_ := Aside0.mk (Kd.R_lower ho21 (keep_size (w := w) (g := g) (row := none) (zb87)))
      have n2_ := Aside0.mk (IsS102.below (zb85) hb)
      have n3_ := Aside0.mk (blk_below (g := gb206) (o := .cells #[.int .i64 0, .slice none 0 0] 53 (0, 0)) (zb77) hb)
      have n4_ := Aside0.mk (blk_below (g := gb213) (o := .cells #[.int .i64 t207, .slice Ao15 t208.length co15] 53 (0, 0)) (zb88) hb)
      have n5_ := Aside0.mk (KeepBut.trans (zb87) (KeepBut.of_below hb g none) (.inl rfl))
      have n6_ := Aside0.mk (below_step (zb89) hb)
      clear HO210
      clear HI0
      clear BK206
      clear BK213
      clear HK
      clear HB
      have HO210 := n0_
      have HO222 := n1_
      have HI0 := n2_
      have BK206 := n3_
      have BK213 := n4_
      have HK := n5_
      have HB := n6_
      clear n0_ n1_ n2_ n3_ n4_ n5_ n6_
      clear hb ho21
      obtain ⟨Ao22, co22, eo22⟩ := Kd.R_slice HO222.out
      subst eo22
      obtain ⟨ado22, fo22, _⟩ := Kd.at_int (Kd.R_reads' HO222.out).2.2 0 (by decide) (by rw [Ny220.out]; simp)
      cases fo22
      refine hK.out _ _ ⟨(blk_cell BK213.out 0).trans rfl, (blk_cell BK213.out 1).trans rfl⟩ (fun hHeld => ?_)
      clear hK K
      refine norm_ (a' := ?_) ?_ ?_
      rotate_left
      ·show Act.put _ (some 18) _ = _
       simp only [Act.put, List.setIfInBounds_toArray, List.set_cons_zero, List.set_cons_succ, i64_w, i32_w]
       rfl
      exact norm_ (zb31) (hCont (.slice (some ado22) y220.length co22, ado22) _ ⟨hHeld, (zb79), (zb90), ⟨_, rfl⟩, (zb77), (zb88), (zb85), (zb87), (zb89)⟩)
    rintro ⟨v221, adz_v221⟩ w23 ⟨hS_, h0_, h1_, h2_, h3_, h4_, h5_, h6_, h7_⟩
    have n0_ : Aside0 (Kd.R k63 63 w23 w.heap.size (fun _ => True) (.slice Ao15 t208.length co15) t208) := ⟨h0_⟩
    have n1_ : Aside0 (Kd.R (Kd.int .i64) 3 w23 w.heap.size (fun _ => True) v221 y220) := ⟨h1_⟩
    have n2_ : Aside0 (∃ c_, (v221 : Value) = .slice (some adz_v221) y220.length c_) := ⟨h2_⟩
    have n3_ : Aside0 (w23.heap[gb206]? = some (.cells #[.int .i64 0, .slice none 0 0] 53 (0, 0))) := ⟨h3_⟩
    have n4_ : Aside0 (w23.heap[gb213]? = some (.cells #[.int .i64 t207, .slice Ao15 t208.length co15] 53 (0, 0))) := ⟨h4_⟩
    have n5_ : Aside0 (IsS102 w0 w23 g s0_0 t224 t225) := ⟨h5_⟩
    have n6_ : Aside0 (KeepBut w w23 g none) := ⟨h6_⟩
    have n7_ : Aside0 (Below w0.heap.size w0 w23) := ⟨h7_⟩
    clear HO210
    clear BK206
    clear BK213
    clear HI0
    clear HK
    clear HB
    clear h0_ h1_ h2_ h3_ h4_ h5_ h6_ h7_
    have HO210 := n0_
    have HO222 := n1_
    have HA_HO222 := n2_
    have BK206 := n3_
    have BK213 := n4_
    have HI0 := n5_
    have HK := n6_
    have HB := n7_
    clear n0_ n1_ n2_ n3_ n4_ n5_ n6_ n7_
    have hHeld : w23.cell? ⟨gb213, 0, none⟩ = some (.int .i64 t207) ∧ w23.cell? ⟨gb213, 1, none⟩ = some (.slice Ao15 t208.length co15) := hS_
    obtain ⟨co24, eo24⟩ := HA_HO222.out
    clear HA_HO222
    subst eo24
    refine norm_ (a' := ?_) ?_ ?_
    rotate_left
    ·simp only [putAll, Act.put, List.setIfInBounds_toArray, List.set_cons_zero, List.set_cons_succ]
     rfl
    refine pz 11 21 (bz 15 4095) rfl rfl ?_
    refine one_ (i := 12) (N := some 22) (bz 15 8191) rfl rfl (one_of HT_.out (by kernel_rfl)) (by decide) (fun K hK => ?_)
    (have p226 : 0 ≤ (t223 : Int) := of_decide_eq_true (zb9); have q226 : t223 < (y220.length : Int) := of_decide_eq_true (zb9); obtain ⟨ad226, e226, hx226_0⟩ := Kd.at_int (Kd.R_reads' HO222.out).2.2 t223 p226 q226; obtain rfl : adz_v221 = ad226 := (by injection e226))
    refine value_ (w1 := ?_) (v := ?_) (by rfl) rfl ?_ ?_
    rotate_left 2
    ·go_simp
     constructor
     ·rfl
     ·rfl
    clear hx226_0
    refine hK.out _ _ ⟨(blk_cell BK213.out 0).trans rfl, (blk_cell BK213.out 1).trans rfl⟩ (fun hHeld => ?_)
    clear hK K
    refine norm_ (a' := ?_) ?_ ?_
    rotate_left
    ·show Act.put _ (some 22) _ = _
     simp only [Act.put, List.setIfInBounds_toArray, List.set_cons_zero, List.set_cons_succ, i64_w, i32_w]
     rfl
    refine pz 13 23 (bz 15 16383) rfl rfl ?_
    refine last_ (i := 14) (N := none) (bz 15 32767) rfl rfl (one_of HT_.out (by kernel_rfl)) (by decide) (fun K hK => ?_)
    have hs25 : w23.cell? ⟨gb213, 0, none⟩ = some (.int .i64 t207) := (blk_cell BK213.out 0).trans rfl
    have hfs25 := blk_frozen BK213.out 0
    have hns25_0 := NB206_213.out
    have hms25_0 := NB213_206.out
    refine skip_ (w1 := ?_) (by rfl) rfl ?_ ?_
    rotate_left
    ·go_simp
     rfl
    refine hK.out _ _ ?_
    clear hK K
    refine done_ (done_of HT_.out (by kernel_rfl)) ?_
    have hcz26_0 : w23.cell? ⟨gb213, 0, none⟩ = some (.int .i64 t207) := (blk_cell BK213.out 0).trans rfl
    have hcz26_1 : w23.cell? ⟨gb213, 1, none⟩ = some (.slice Ao15 t208.length co15) := (blk_cell BK213.out 1).trans rfl
    have hfz26_0 := blk_frozen BK213.out 0
    have hfz26_1 := blk_frozen BK213.out 1
    have hnb27 := NB206_0.out
    have hnc27 := NB0_206.out
    have hcz28_0 : w23.cell? ⟨gb206, 0, none⟩ = some (.int .i64 0) := (blk_cell BK206.out 0).trans rfl
    have hcz28_1 : w23.cell? ⟨gb206, 1, none⟩ = some (.slice none 0 0) := (blk_cell BK206.out 1).trans rfl
    have hfz28_0 := blk_frozen BK206.out 0
    have hfz28_1 := blk_frozen BK206.out 1
    try go_wp2
    refine bodyPost_ret (results_cell_row rfl _ _ gb206 53 #[.int .i64 (rd y220 t223), .slice Ao15 t208.length co15] (0, 0) _ rfl (by (with_reducible repeat (first | refine blk_drewN ?_ _ | refine blk_drew ?_ | refine blk_alloc ?_ _)); refine blk_put (cs := #[.int .i64 (rd y220 t223), .slice none 0 0]) ?_ 1 _ rfl; (with_reducible repeat (first | refine blk_drewN ?_ _ | refine blk_drew ?_ | refine blk_alloc ?_ _)); refine blk_put (cs := #[.int .i64 0, .slice none 0 0]) ?_ 0 _ rfl; (with_reducible repeat (first | refine blk_drewN ?_ _ | refine blk_drew ?_ | refine blk_alloc ?_ _)); refine blk_far ?_ NB206_213.out _; (with_reducible repeat (first | refine blk_drewN ?_ _ | refine blk_drew ?_ | refine blk_alloc ?_ _)); exact BK206.out) Try.underlying53 rfl (by kernel_rfl)) rfl ?_
    exact ⟨_, zb5, by (with_reducible repeat (first | apply Kd.R_alloc | apply Kd.R_drewN | apply Kd.R_drew)); exact Kd.R_mono (Kd.R_far (p := ⟨gb206, 1, none⟩) (Kd.R_far (p := ⟨gb206, 0, none⟩) (Kd.R_far (p := ⟨gb213, 0, none⟩) (Kd.R_types (Kd.R_types HO210.out BK213.out (by decide)) BK206.out (by decide)) (fun _ hk => hk.1.2) (.int .i64 (rd y220 t223))) (fun _ hk => hk.2) (.int .i64 (rd y220 t223))) (fun _ hk => hk.2) (.slice Ao15 t208.length co15)) (fun _ hk => trivial), zb85, zb89, zb87⟩
   ·rw [if_neg c8] at H
    exact absurd H (by simp)
  ·rw [if_neg c7] at H
   exact absurd H (by simp)
 ·rw [if_neg c4] at H
  have c4b0 : (t214 == 0) = false := beq_eq_false_iff_ne.mpr c4
  have c4b1 : (t214 != 0) = true := bne_iff_ne.mpr c4
  by_cases c29 : t214 = 1
  ·rw [if_pos c29] at H
   have c29b0 : (t214 == 1) = true := beq_iff_eq.mpr c29
   have c29b1 : (t214 != 1) = false := bne_eq_false_iff_eq.mpr c29
   clear c29
   replace H := Option.bind_eq_some_iff.mp H
   obtain ⟨⟨t227, t228, t229⟩, A300, H⟩ := H
   replace H : ((spec_l01Cur_raw.f s0_0 t228 t229).bind fun bt230 => ((spec_l01Cur_pick.f s0_0 bt230.2.1 bt230.2.2 40).bind fun bt233 => ((some (([bt230.1, bt233.1, 1000, 1001] : List Int) : List Int)).bind fun y236 => ((spec_l01Cur_pick.f s0_0 bt233.2.1 bt233.2.2 4).bind fun bt239 => (if 0 ≤ bt239.1 then (if bt239.1 < (y236.length : Int) then (if 0 ≤ t227 then (if t227 < (t208.length : Int) then (some (t207, (t208.set (t227 : Int).toNat (⟨rd y236 bt239.1, (rd_T63 t208 t227).f1⟩ : S63)), bt239.2.1, bt239.2.2)) else (none)) else (none)) else (none)) else (none)))))) = some (r1, r2, r3, r4) := H
   have A30 := Aside0.mk A300
   clear A300
   replace H := Option.bind_eq_some_iff.mp H
   obtain ⟨⟨t230, t231, t232⟩, A310, H⟩ := H
   replace H : ((spec_l01Cur_pick.f s0_0 t231 t232 40).bind fun bt233 => ((some (([t230, bt233.1, 1000, 1001] : List Int) : List Int)).bind fun y236 => ((spec_l01Cur_pick.f s0_0 bt233.2.1 bt233.2.2 4).bind fun bt239 => (if 0 ≤ bt239.1 then (if bt239.1 < (y236.length : Int) then (if 0 ≤ t227 then (if t227 < (t208.length : Int) then (some (t207, (t208.set (t227 : Int).toNat (⟨rd y236 bt239.1, (rd_T63 t208 t227).f1⟩ : S63)), bt239.2.1, bt239.2.2)) else (none)) else (none)) else (none)) else (none))))) = some (r1, r2, r3, r4) := H
   have A31 := Aside0.mk A310
   clear A310
   replace H := Option.bind_eq_some_iff.mp H
   obtain ⟨⟨t233, t234, t235⟩, A320, H⟩ := H
   replace H : ((some (([t230, t233, 1000, 1001] : List Int) : List Int)).bind fun y236 => ((spec_l01Cur_pick.f s0_0 t234 t235 4).bind fun bt239 => (if 0 ≤ bt239.1 then (if bt239.1 < (y236.length : Int) then (if 0 ≤ t227 then (if t227 < (t208.length : Int) then (some (t207, (t208.set (t227 : Int).toNat (⟨rd y236 bt239.1, (rd_T63 t208 t227).f1⟩ : S63)), bt239.2.1, bt239.2.2)) else (none)) else (none)) else (none)) else (none)))) = some (r1, r2, r3, r4) := H
   have A32 := Aside0.mk A320
   clear A320
   obtain ⟨y236, hy236⟩ : ∃ y_ : List Int, y_ = (([t230, t233, 1000, 1001] : List Int)) := ⟨_, rfl⟩
   replace H : ((spec_l01Cur_pick.f s0_0 t234 t235 4).bind fun bt239 => (if 0 ≤ bt239.1 then (if bt239.1 < (y236.length : Int) then (if 0 ≤ t227 then (if t227 < (t208.length : Int) then (some (t207, (t208.set (t227 : Int).toNat (⟨rd y236 bt239.1, (rd_T63 t208 t227).f1⟩ : S63)), bt239.2.1, bt239.2.2)) else (none)) else (none)) else (none)) else (none))) = some (r1, r2, r3, r4) := by first | (rw [hy236]; with_reducible exact H) | (have H2_ := (Option.bind_some _ _).symm.trans H; rw [hy236]; with_reducible exact H2_) | (have H2_ := (Option.bind_some _ _).symm.trans H; with_reducible exact H2_) | with_reducible exact H | (rw [hy236]; exact H) | exact H
   have Ny236 := Aside0.mk hy236
   clear hy236
   replace H := Option.bind_eq_some_iff.mp H
   obtain ⟨⟨t239, t240, t241⟩, A330, H⟩ := H
   replace H : (if 0 ≤ t239 then (if t239 < (y236.length : Int) then (if 0 ≤ t227 then (if t227 < (t208.length : Int) then (some (t207, (t208.set (t227 : Int).toNat (⟨rd y236 t239, (rd_T63 t208 t227).f1⟩ : S63)), t240, t241)) else (none)) else (none)) else (none)) else (none)) = some (r1, r2, r3, r4) := H
   have A33 := Aside0.mk A330
   clear A330
   by_cases c34 : 0 ≤ t239
   ·rw [if_pos c34] at H
    have c34b0 : decide (0 ≤ t239) = true := decide_eq_true c34
    clear c34
    by_cases c35 : t239 < (y236.length : Int)
    ·rw [if_pos c35] at H
     have c35b0 : decide (t239 < (y236.length : Int)) = true := decide_eq_true c35
     clear c35
     by_cases c36 : 0 ≤ t227
     ·rw [if_pos c36] at H
      have c36b0 : decide (0 ≤ t227) = true := decide_eq_true c36
      clear c36
      by_cases c37 : t227 < (t208.length : Int)
      ·rw [if_pos c37] at H
       have c37b0 : decide (t227 < (t208.length : Int)) = true := decide_eq_true c37
       clear c37
       obtain ⟨y243, hy243⟩ : ∃ y_ : List (S63), y_ = (t208.set (t227 : Int).toNat (⟨rd y236 t239, (rd_T63 t208 t227).f1⟩ : S63)) := ⟨_, rfl⟩
       replace H : (some (t207, y243, t240, t241)) = some (r1, r2, r3, r4) := by first | (rw [hy243]; with_reducible exact H) | (have H2_ := (Option.bind_some _ _).symm.trans H; rw [hy243]; with_reducible exact H2_) | (have H2_ := (Option.bind_some _ _).symm.trans H; with_reducible exact H2_) | with_reducible exact H | (rw [hy243]; exact H) | exact H
       have Ny243 := Aside0.mk hy243
       clear hy243
       simp only [Option.some.injEq, Prod.mk.injEq] at H
       obtain ⟨rfl, rfl, rfl, rfl⟩ := H
       go_enter Try.func66, Try.ntmps66
       try go_wp2_with (first | ((with_reducible refine gate_dst (N := 2) rfl ?_); refine box_event ?hg (N := 2) ?hd (cs := #[.int .i64 0, .slice none 0 0]) (t := 53) ?hr ?_; (case hd => rfl); (case hg => rfl); (case hr => first | (go_simp; done) | (go_simp; rfl)); intro gb206 hg w39 hbox hb; have n0_ := Aside0.mk (IsS102.below (zb6) hb); have n1_ := Aside0.mk (KeepBut.trans (zb8) (KeepBut.of_below hb g none) (.inl rfl)); have n2_ := Aside0.mk (below_step (zb7) hb); have n3_ := Aside0.mk (hbox); have n4_ := Aside0.mk ((by rw [hg]; exact (keep_size (w := w) (g := g) (row := none) (zb8)) : w.heap.size ≤ gb206)); have n5_ := Aside0.mk ((Nat.le_trans HW0.out (by rw [hg]; exact (keep_size (w := w) (g := g) (row := none) (zb8)) : w.heap.size ≤ gb206) : w0.heap.size ≤ gb206)); have n6_ := Aside0.mk ((by rw [hg]; exact Nat.ne_of_lt (IsS102.lt (show IsS102 w0 _ g s0_0 s0_1 s0_2 from zb6)) : g ≠ gb206)); have n7_ := Aside0.mk ((by rw [hg]; exact Nat.ne_of_gt (IsS102.lt (show IsS102 w0 _ g s0_0 s0_1 s0_2 from zb6)) : gb206 ≠ g)); clear HI0; clear HK; clear HB; have HI0 := n0_; have HK := n1_; have HB := n2_; have BK206 := n3_; have GW206 := n4_; have GE206 := n5_; have NB0_206 := n6_; have NB206_0 := n7_; clear n0_ n1_ n2_ n3_ n4_ n5_ n6_ n7_; clear hb hbox hg) | ((with_reducible refine gate_callee (f := 84) rfl ?_); refine goesL_ (some 5) rfl rfl Try.func84 (by kernel_rfl) rfl #[.pointer (some ⟨g, 0, none⟩)] rfl (zb10) ?_; (with_reducible refine (spec_l01Cur_marks.calls k g s0_0 s0_1 s0_2 t207 t208 t211 t212 w0 _ ?side1 ?side2 A2.out).mono ?_); (case side1 => exact zb75); (case side2 => exact zb76); rintro e w40 ⟨v209, rfl, ho0, hi, hb, hk⟩; refine ⟨_, rfl, ?_⟩; have n0_ := Aside0.mk (KeepBut.blk hk (g' := gb206) (o := .cells #[.int .i64 0, .slice none 0 0] 53 (0, 0)) (zb77) NB206_0.out (by simp)); have n1_ := Aside0.mk (Kd.R_lower ho0 (keep_size (w := w) (g := g) (row := none) (zb78))); have n2_ := Aside0.mk (KeepBut.trans (zb78) hk (.inl rfl)); have n3_ := Aside0.mk (hb); have n4_ := Aside0.mk (hi); clear BK206; clear HK; clear HB; clear HI0; have BK206 := n0_; have HO210 := n1_; have HK := n2_; have HB := n3_; have HI0 := n4_; clear n0_ n1_ n2_ n3_ n4_; (try clear hb); (try clear hb2); (try clear hk); (try clear hi); (try clear ho0)) | ((with_reducible refine gate_dst (N := 3) rfl ?_); refine box_event ?hg (N := 3) ?hd (cs := #[.int .i64 0, .slice none 0 0]) (t := 53) ?hr ?_; (case hd => rfl); (case hg => rfl); (case hr => first | (go_simp; done) | (go_simp; rfl)); intro gb213 hg w41 hbox hb; have n0_ := Aside0.mk (Kd.R_below (zb79) hb); have n1_ := Aside0.mk (IsS102.below (zb80) hb); have n2_ := Aside0.mk (blk_below (g := gb206) (o := .cells #[.int .i64 0, .slice none 0 0] 53 (0, 0)) (zb77) hb); have n3_ := Aside0.mk (KeepBut.trans (zb78) (KeepBut.of_below hb g none) (.inl rfl)); have n4_ := Aside0.mk (below_step (zb81) hb); have n5_ := Aside0.mk (hbox); have n6_ := Aside0.mk ((by rw [hg]; exact (keep_size (w := w) (g := g) (row := none) (zb78)) : w.heap.size ≤ gb213)); have n7_ := Aside0.mk ((Nat.le_trans HW0.out (by rw [hg]; exact (keep_size (w := w) (g := g) (row := none) (zb78)) : w.heap.size ≤ gb213) : w0.heap.size ≤ gb213)); have n8_ := Aside0.mk ((by rw [hg]; exact Nat.ne_of_lt (blk_lt (g := gb206) (o := .cells #[.int .i64 0, .slice none 0 0] 53 (0, 0)) (zb77)) : gb206 ≠ gb213)); have n9_ := Aside0.mk ((by rw [hg]; exact Nat.ne_of_gt (blk_lt (g := gb206) (o := .cells #[.int .i64 0, .slice none 0 0] 53 (0, 0)) (zb77)) : gb213 ≠ gb206)); have n10_ := Aside0.mk ((by rw [hg]; exact Nat.ne_of_lt (IsS102.lt (show IsS102 w0 _ g s0_0 t211 t212 from zb80)) : g ≠ gb213)); have n11_ := Aside0.mk ((by rw [hg]; exact Nat.ne_of_gt (IsS102.lt (show IsS102 w0 _ g s0_0 t211 t212 from zb80)) : gb213 ≠ g)); clear HO210; clear HI0; clear BK206; clear HK; clear HB; have HO210 := n0_; have HI0 := n1_; have BK206 := n2_; have HK := n3_; have HB := n4_; have BK213 := n5_; have GW213 := n6_; have GE213 := n7_; have NB206_213 := n8_; have NB213_206 := n9_; have NB0_213 := n10_; have NB213_0 := n11_; clear n0_ n1_ n2_ n3_ n4_ n5_ n6_ n7_ n8_ n9_ n10_ n11_; clear hb hbox hg; have hnb42 := NB213_206.out; have hnc42 := NB206_213.out; have hnb43 := NB213_0.out; have hnc43 := NB0_213.out; have hcz44_0 : w41.cell? ⟨gb213, 0, none⟩ = some (.int .i64 0) := (blk_cell BK213.out 0).trans rfl; have hcz44_1 : w41.cell? ⟨gb213, 1, none⟩ = some (.slice none 0 0) := (blk_cell BK213.out 1).trans rfl; have hfz44_0 := blk_frozen BK213.out 0; have hfz44_1 := blk_frozen BK213.out 1; obtain ⟨Ao45, co45, eo45⟩ := Kd.R_slice HO210.out; subst eo45) | ((with_reducible refine gate_callee (f := 67) rfl ?_); refine goesL_ (some 7) rfl rfl Try.func67 (by kernel_rfl) rfl #[.pointer (some ⟨g, 0, none⟩), .int .i64 12] rfl (zb10) ?_; (with_reducible refine (spec_l01Cur_pick.calls g s0_0 t211 t212 12 t214 t215 t216 w0 _ ?side1 ?side2 A3.out).mono ?_); (case side1 => exact zb82); (case side2 => exact zb83); rintro e w46 ⟨rfl, hi, hb, hk⟩; refine ⟨_, rfl, ?_⟩; have n0_ := Aside0.mk (KeepBut.blk hk (g' := gb206) (o := .cells #[.int .i64 0, .slice none 0 0] 53 (0, 0)) (zb84) NB206_0.out (by simp)); have n1_ := Aside0.mk (Kd.R_mono (Kd.R_keep (IsS102.apart (show IsS102 w0 _ g s0_0 t211 t212 from zb85) (by (with_reducible repeat (first | apply Kd.R_alloc | apply Kd.R_drewN | apply Kd.R_drew)); exact (Kd.R_mono (Kd.R_far (p := ⟨gb213, 1, none⟩) (Kd.R_far (p := ⟨gb213, 0, none⟩) (Kd.R_types HO210.out BK213.out (by decide)) (fun _ hk => hk.2) (.int .i64 t207)) (fun _ hk => hk.2) (.slice Ao45 t208.length co45)) (fun _ h_ => h_.1))) (by decide)) hk (fun _ h => h.2)) (fun _ h => h.1)); have n2_ := Aside0.mk (KeepBut.blk hk (g' := gb213) (o := .cells #[.int .i64 t207, .slice Ao45 t208.length co45] 53 (0, 0)) (zb86) NB213_0.out (by simp)); have n3_ := Aside0.mk (KeepBut.trans (zb87) hk (.inl rfl)); have n4_ := Aside0.mk (hb); have n5_ := Aside0.mk (hi); clear BK206; clear HO210; clear BK213; clear HK; clear HB; clear HI0; have BK206 := n0_; have HO210 := n1_; have BK213 := n2_; have HK := n3_; have HB := n4_; have HI0 := n5_; clear n0_ n1_ n2_ n3_ n4_ n5_; (try clear hb); (try clear hb2); (try clear hk); (try clear hi)))
       have pi242 : (0 ≤ (t239 : Int)) = True := eq_true (of_decide_eq_true (zb9))
       have qi242 : (t239 < (y236.length : Int)) = True := eq_true (of_decide_eq_true (zb9))
       have n0_ := Aside0.mk (Kd.R_drew HO210.out)
       have n1_ := Aside0.mk (blk_drew BK206.out)
       have n2_ := Aside0.mk (blk_drew BK213.out)
       have n3_ := Aside0.mk (IsS102.drew HI0.out)
       have n4_ := Aside0.mk (keep_drew HK.out)
       have n5_ := Aside0.mk (below_drew1 HB.out)
       clear HO210
       clear BK206
       clear BK213
       clear HI0
       clear HK
       clear HB
       have HO210 := n0_
       have BK206 := n1_
       have BK213 := n2_
       have HI0 := n3_
       have HK := n4_
       have HB := n5_
       clear n0_ n1_ n2_ n3_ n4_ n5_
       refine start_ (n := 19) (S := fun w' => w'.cell? ⟨gb213, 0, none⟩ = some (.int .i64 t207) ∧ w'.cell? ⟨gb213, 1, none⟩ = some (.slice Ao45 t208.length co45)) (ds := [18]) #[false, false, false, false, false, false, false, false, false, false, false, false, false, false, false, false, false, false, false] (by kernel_rfl) rfl rfl ⟨(blk_cell BK213.out 0).trans rfl, (blk_cell BK213.out 1).trans rfl⟩ (fun hHeld => ?_); refine with_tabW spec_l01Cur_badMarks.tab6 spec_l01Cur_badMarks.bits6 (fun HT_ HW_ => ?_)
       generalize w46.drew = w47 at HO210 BK206 BK213 HI0 HK HB hHeld ⊢
       refine pz 0 26 (bz 19 1) rfl rfl ?_
       refine pz 2 28 (bz 19 5) rfl rfl ?_
       refine pz 3 29 (bz 19 13) rfl rfl ?_
       refine pz 7 33 (bz 19 141) rfl rfl ?_
       refine pz 9 35 (bz 19 653) rfl rfl ?_
       refine pz 12 38 (bz 19 4749) rfl rfl ?_
       refine tz 1 27 (bz 19 4751) rfl rfl (Or.inl ⟨by rfl, by rintro w' ⟨s0, s1⟩; go_simp; with_reducible rfl⟩) hHeld ?_
       refine tz 4 30 (bz 19 4767) rfl rfl (Or.inl ⟨by rfl, by rintro w' ⟨s0, s1⟩; go_simp; with_reducible rfl⟩) hHeld ?_
       refine pz 5 31 (bz 19 4799) rfl rfl ?_
       refine one_ (i := 6) (N := some 32) (bz 19 4863) rfl rfl (one_of HT_.out (by kernel_rfl)) (by decide) (fun K hK => ?_)
       refine goes_ Try.func67 (by kernel_rfl) rfl #[.pointer (some ⟨g, 0, none⟩), .int .i64 (t208.length : Int)] (by rfl) rfl rfl (zb10) ?_
       with_reducible refine (spec_l01Cur_pick.calls g s0_0 t215 t216 (t208.length : Int) t227 t228 t229 w0 _ ?side1 ?side2 A30.out).mono ?_
       (case side1 => exact zb82)
       (case side2 => exact zb83)
       rintro e w48 ⟨rfl, hi, hb, hk⟩
       refine ⟨_, rfl, ?_⟩
       have n0_ := Aside0.mk (KeepBut.blk hk (g' := gb206) (o := .cells #[.int .i64 0, .slice none 0 0] 53 (0, 0)) (zb77) NB206_0.out (by simp))
       have n1_ := Aside0.mk (Kd.R_mono (Kd.R_keep (IsS102.apart (show IsS102 w0 _ g s0_0 t215 t216 from zb85) (zb79) (by decide)) hk (fun _ h => h.2)) (fun _ h => h.1))
       have n2_ := Aside0.mk (KeepBut.blk hk (g' := gb213) (o := .cells #[.int .i64 t207, .slice Ao45 t208.length co45] 53 (0, 0)) (zb88) NB213_0.out (by simp))
       have n3_ := Aside0.mk (KeepBut.trans (zb87) hk (.inl rfl))
       have n4_ := Aside0.mk (hb)
       have n5_ := Aside0.mk (hi)
       clear BK206
       clear HO210
       clear BK213
       clear HK
       clear HB
       clear HI0
       have BK206 := n0_
       have HO210 := n1_
       have BK213 := n2_
       have HK := n3_
       have HB := n4_
       have HI0 := n5_
       clear n0_ n1_ n2_ n3_ n4_ n5_
       (try clear hb)
       (try clear hb2)
       (try clear hk)
       (try clear hi)
       refine hK.out _ _ ⟨(blk_cell BK213.out 0).trans rfl, (blk_cell BK213.out 1).trans rfl⟩ (fun hHeld => ?_)
       clear hK K
       refine norm_ (a' := ?_) ?_ ?_
       rotate_left
       ·show Act.put _ (some 32) _ = _
        simp only [Act.put, List.setIfInBounds_toArray, List.set_cons_zero, List.set_cons_succ, i64_w, i32_w]
        rfl
       refine one_ (i := 8) (N := some 34) (bz 19 5119) rfl rfl (one_of HT_.out (by kernel_rfl)) (by decide) (fun K hK => ?_)
       refine goes_ Try.func47 (by kernel_rfl) rfl #[.pointer (some ⟨g, 0, none⟩)] (by rfl) rfl rfl (zb10) ?_
       with_reducible refine (spec_l01Cur_raw.calls g s0_0 t228 t229 t230 t231 t232 w0 _ ?side1 ?side2 A31.out).mono ?_
       (case side1 => exact zb82)
       (case side2 => exact zb83)
       rintro e w49 ⟨rfl, hi, hb, hk⟩
       refine ⟨_, rfl, ?_⟩
       have n0_ := Aside0.mk (KeepBut.blk hk (g' := gb206) (o := .cells #[.int .i64 0, .slice none 0 0] 53 (0, 0)) (zb77) NB206_0.out (by simp))
       have n1_ := Aside0.mk (Kd.R_mono (Kd.R_keep (IsS102.apart (show IsS102 w0 _ g s0_0 t228 t229 from zb85) (zb79) (by decide)) hk (fun _ h => h.2)) (fun _ h => h.1))
       have n2_ := Aside0.mk (KeepBut.blk hk (g' := gb213) (o := .cells #[.int .i64 t207, .slice Ao45 t208.length co45] 53 (0, 0)) (zb88) NB213_0.out (by simp))
       have n3_ := Aside0.mk (KeepBut.trans (zb87) hk (.inl rfl))
       have n4_ := Aside0.mk (hb)
       have n5_ := Aside0.mk (hi)
       clear BK206
       clear HO210
       clear BK213
       clear HK
       clear HB
       clear HI0
       have BK206 := n0_
       have HO210 := n1_
       have BK213 := n2_
       have HK := n3_
       have HB := n4_
       have HI0 := n5_
       clear n0_ n1_ n2_ n3_ n4_ n5_
       (try clear hb)
       (try clear hb2)
       (try clear hk)
       (try clear hi)
       refine hK.out _ _ ⟨(blk_cell BK213.out 0).trans rfl, (blk_cell BK213.out 1).trans rfl⟩ (fun hHeld => ?_)
       clear hK K
       refine norm_ (a' := ?_) ?_ ?_
       rotate_left
       ·show Act.put _ (some 34) _ = _
        simp only [Act.put, List.setIfInBounds_toArray, List.set_cons_zero, List.set_cons_succ, i64_w, i32_w]
        rfl
       refine one_ (i := 10) (N := some 36) (bz 19 6143) rfl rfl (one_of HT_.out (by kernel_rfl)) (by decide) (fun K hK => ?_)
       refine goes_ Try.func67 (by kernel_rfl) rfl #[.pointer (some ⟨g, 0, none⟩), .int .i64 40] (by rfl) rfl rfl (zb10) ?_
       with_reducible refine (spec_l01Cur_pick.calls g s0_0 t231 t232 40 t233 t234 t235 w0 _ ?side1 ?side2 A32.out).mono ?_
       (case side1 => exact zb82)
       (case side2 => exact zb83)
       rintro e w50 ⟨rfl, hi, hb, hk⟩
       refine ⟨_, rfl, ?_⟩
       have n0_ := Aside0.mk (KeepBut.blk hk (g' := gb206) (o := .cells #[.int .i64 0, .slice none 0 0] 53 (0, 0)) (zb77) NB206_0.out (by simp))
       have n1_ := Aside0.mk (Kd.R_mono (Kd.R_keep (IsS102.apart (show IsS102 w0 _ g s0_0 t231 t232 from zb85) (zb79) (by decide)) hk (fun _ h => h.2)) (fun _ h => h.1))
       have n2_ := Aside0.mk (KeepBut.blk hk (g' := gb213) (o := .cells #[.int .i64 t207, .slice Ao45 t208.length co45] 53 (0, 0)) (zb88) NB213_0.out (by simp))
       have n3_ := Aside0.mk (KeepBut.trans (zb87) hk (.inl rfl))
       have n4_ := Aside0.mk (hb)
       have n5_ := Aside0.mk (hi)
       clear BK206
       clear HO210
       clear BK213
       clear HK
       clear HB
       clear HI0
       have BK206 := n0_
       have HO210 := n1_
       have BK213 := n2_
       have HK := n3_
       have HB := n4_
       have HI0 := n5_
       clear n0_ n1_ n2_ n3_ n4_ n5_
       (try clear hb)
       (try clear hb2)
       (try clear hk)
       (try clear hi)
       refine hK.out _ _ ⟨(blk_cell BK213.out 0).trans rfl, (blk_cell BK213.out 1).trans rfl⟩ (fun hHeld => ?_)
       clear hK K
       refine norm_ (a' := ?_) ?_ ?_
       rotate_left
       ·show Act.put _ (some 36) _ = _
        simp only [Act.put, List.setIfInBounds_toArray, List.set_cons_zero, List.set_cons_succ, i64_w, i32_w]
        rfl
       refine join_ (σ := Value × Addr) 5 #[true, true, true, true, true, true, true, true, true, true, true, true, true, true, false, false, false, false, false] (fun s_ => [(37, s_.1), (39, .int .i64 t239)]) (fun s_ w' => (w'.cell? ⟨gb213, 0, none⟩ = some (.int .i64 t207) ∧ w'.cell? ⟨gb213, 1, none⟩ = some (.slice Ao45 t208.length co45)) ∧ (Kd.R k63 63 w' w.heap.size (fun _ => True) (.slice Ao45 t208.length co45) t208) ∧ (Kd.R (Kd.int .i64) 3 w' w.heap.size (fun _ => True) s_.1 y236) ∧ (∃ c_, (s_.1 : Value) = .slice (some s_.2) y236.length c_) ∧ (w'.heap[gb206]? = some (.cells #[.int .i64 0, .slice none 0 0] 53 (0, 0))) ∧ (w'.heap[gb213]? = some (.cells #[.int .i64 t207, .slice Ao45 t208.length co45] 53 (0, 0))) ∧ (IsS102 w0 w' g s0_0 t240 t241) ∧ (KeepBut w w' g none) ∧ (Below w0.heap.size w0 w')) ?_ ?_
       rotate_left
       ·intro hCont
        refine two_ (i := 11) (j := 13) (Ni := some 37) (Nj := some 39) #[true, true, true, true, true, true, true, true, true, true, true, true, true, false, false, false, false, false, false] #[true, true, true, true, true, true, true, true, true, true, true, false, true, true, false, false, false, false, false] rfl rfl rfl rfl (two_of HT_.out (by kernel_rfl)) (by decide) (by decide) (fun K hK => ?_) (fun K hK => ?_)
        ·skip
         refine Kd.R_lit_step (Kd.int .i64) _ 3 ?hg (N := 37) ?hd (xs := ([t230, t233, 1000, 1001] : List Int)) (inner := [.int .i64 t230, .int .i64 t233, .int .i64 1000, .int .i64 1001]) (ok := fun _ => True) (okp := fun _ => True) ?hr ?hp (fun _ hk => hk) trivial (Below.refl _ _) (Nat.le_refl _) (by simp) ?_; (case hd => rfl); (case hg => rfl); (case hr => first | (go_simp; done) | (go_simp; rfl)); (case hp => exact (Reps.one (show Kd.M (Kd.int .i64) _ _ _ t230 [.int .i64 t230] from rfl) (Reps.one (show Kd.M (Kd.int .i64) _ _ _ t233 [.int .i64 t233] from rfl) (Reps.one (show Kd.M (Kd.int .i64) _ _ _ 1000 [.int .i64 1000] from rfl) (Reps.one (show Kd.M (Kd.int .i64) _ _ _ 1001 [.int .i64 1001] from rfl) (Reps.none _ _))))))
         intro v237 w51 ho52 hb hg_ hnew_
         clear hg_ hnew_
         (first | rw [← Ny236.out] at ho52 | (simp only [Int.reduceToNat] at ho52; rw [← Ny236.out] at ho52))
         have n0_ := Aside0.mk (Kd.R_below (zb79) hb)
         have n1_ := Aside0.mk (Kd.R_lower ho52 (keep_size (w := w) (g := g) (row := none) (zb87)))
         have n2_ := Aside0.mk (IsS102.below (zb85) hb)
         have n3_ := Aside0.mk (blk_below (g := gb206) (o := .cells #[.int .i64 0, .slice none 0 0] 53 (0, 0)) (zb77) hb)
         have n4_ := Aside0.mk (blk_below (g := gb213) (o := .cells #[.int .i64 t207, .slice Ao45 t208.length co45] 53 (0, 0)) (zb88) hb)
         have n5_ := Aside0.mk (KeepBut.trans (zb87) (KeepBut.of_below hb g none) (.inl rfl))
         have n6_ := Aside0.mk (below_step (zb89) hb)
         clear HO210
         clear HI0
         clear BK206
         clear BK213
         clear HK
         clear HB
         have HO210 := n0_
         have HO238 := n1_
         have HI0 := n2_
         have BK206 := n3_
         have BK213 := n4_
         have HK := n5_
         have HB := n6_
         clear n0_ n1_ n2_ n3_ n4_ n5_ n6_
         clear hb ho52
         obtain ⟨Ao53, co53, eo53⟩ := Kd.R_slice HO238.out
         subst eo53
         obtain ⟨ado53, fo53, _⟩ := Kd.at_int (Kd.R_reads' HO238.out).2.2 0 (by decide) (by rw [Ny236.out]; simp)
         cases fo53
         refine hK.out _ _ ⟨(blk_cell BK213.out 0).trans rfl, (blk_cell BK213.out 1).trans rfl⟩ (fun hHeld => ?_)
         clear hK K
         refine norm_ (a' := ?_) ?_ ?_
         rotate_left
         ·show Act.put _ (some 37) _ = _
          simp only [Act.put, List.setIfInBounds_toArray, List.set_cons_zero, List.set_cons_succ, i64_w, i32_w]
          rfl
         refine one_ (i := 13) (N := some 39) (bz 19 16383) rfl rfl (one_of HT_.out (by kernel_rfl)) (by decide) (fun K hK => ?_)
         refine goes_ Try.func67 (by kernel_rfl) rfl #[.pointer (some ⟨g, 0, none⟩), .int .i64 4] (by rfl) rfl rfl (zb10) ?_
         with_reducible refine (spec_l01Cur_pick.calls g s0_0 t234 t235 4 t239 t240 t241 w0 _ ?side1 ?side2 A33.out).mono ?_
         (case side1 => exact zb82)
         (case side2 => exact zb83)
         rintro e w54 ⟨rfl, hi, hb, hk⟩
         refine ⟨_, rfl, ?_⟩
         have n0_ := Aside0.mk (KeepBut.blk hk (g' := gb206) (o := .cells #[.int .i64 0, .slice none 0 0] 53 (0, 0)) (zb77) NB206_0.out (by simp))
         have n1_ := Aside0.mk (Kd.R_mono (Kd.R_keep (IsS102.apart (show IsS102 w0 _ g s0_0 t234 t235 from zb85) (zb79) (by decide)) hk (fun _ h => h.2)) (fun _ h => h.1))
         have n2_ := Aside0.mk (KeepBut.blk hk (g' := gb213) (o := .cells #[.int .i64 t207, .slice Ao45 t208.length co45] 53 (0, 0)) (zb88) NB213_0.out (by simp))
         have n3_ := Aside0.mk (Kd.R_mono (Kd.R_keep (IsS102.apart (show IsS102 w0 _ g s0_0 t234 t235 from zb85) (zb91) (by decide)) hk (fun _ h => h.2)) (fun _ h => h.1))
         have n4_ := Aside0.mk (KeepBut.trans (zb87) hk (.inl rfl))
         have n5_ := Aside0.mk (hb)
         have n6_ := Aside0.mk (hi)
         clear BK206
         clear HO210
         clear BK213
         clear HO238
         clear HK
         clear HB
         clear HI0
         have BK206 := n0_
         have HO210 := n1_
         have BK213 := n2_
         have HO238 := n3_
         have HK := n4_
         have HB := n5_
         have HI0 := n6_
         clear n0_ n1_ n2_ n3_ n4_ n5_ n6_
         (try clear hb)
         (try clear hb2)
         (try clear hk)
         (try clear hi)
         refine hK.out _ _ ⟨(blk_cell BK213.out 0).trans rfl, (blk_cell BK213.out 1).trans rfl⟩ (fun hHeld => ?_)
         clear hK K
         refine norm_ (a' := ?_) ?_ ?_
         rotate_left
         ·show Act.put _ (some 39) _ = _
          simp only [Act.put, List.setIfInBounds_toArray, List.set_cons_zero, List.set_cons_succ, i64_w, i32_w]
          rfl
         exact norm_ (zb31) (hCont (.slice (some ado53) y236.length co53, ado53) _ ⟨hHeld, (zb79), (zb91), ⟨_, rfl⟩, (zb77), (zb88), (zb85), (zb87), (zb89)⟩)
        ·skip
         refine goes_ Try.func67 (by kernel_rfl) rfl #[.pointer (some ⟨g, 0, none⟩), .int .i64 4] (by rfl) rfl rfl (zb10) ?_
         with_reducible refine (spec_l01Cur_pick.calls g s0_0 t234 t235 4 t239 t240 t241 w0 _ ?side1 ?side2 A33.out).mono ?_
         (case side1 => exact zb82)
         (case side2 => exact zb83)
         rintro e w51 ⟨rfl, hi, hb, hk⟩
         refine ⟨_, rfl, ?_⟩
         have n0_ := Aside0.mk (KeepBut.blk hk (g' := gb206) (o := .cells #[.int .i64 0, .slice none 0 0] 53 (0, 0)) (zb77) NB206_0.out (by simp))
         have n1_ := Aside0.mk (Kd.R_mono (Kd.R_keep (IsS102.apart (show IsS102 w0 _ g s0_0 t234 t235 from zb85) (zb79) (by decide)) hk (fun _ h => h.2)) (fun _ h => h.1))
         have n2_ := Aside0.mk (KeepBut.blk hk (g' := gb213) (o := .cells #[.int .i64 t207, .slice Ao45 t208.length co45] 53 (0, 0)) (zb88) NB213_0.out (by simp))
         have n3_ := Aside0.mk (KeepBut.trans (zb87) hk (.inl rfl))
         have n4_ := Aside0.mk (hb)
         have n5_ := Aside0.mk (hi)
         clear BK206
         clear HO210
         clear BK213
         clear HK
         clear HB
         clear HI0
         have BK206 := n0_
         have HO210 := n1_
         have BK213 := n2_
         have HK := n3_
         have HB := n4_
         have HI0 := n5_
         clear n0_ n1_ n2_ n3_ n4_ n5_
         (try clear hb)
         (try clear hb2)
         (try clear hk)
         (try clear hi)
         refine hK.out _ _ ⟨(blk_cell BK213.out 0).trans rfl, (blk_cell BK213.out 1).trans rfl⟩ (fun hHeld => ?_)
         clear hK K
         refine norm_ (a' := ?_) ?_ ?_
         rotate_left
         ·show Act.put _ (some 39) _ = _
          simp only [Act.put, List.setIfInBounds_toArray, List.set_cons_zero, List.set_cons_succ, i64_w, i32_w]
          rfl
         refine one_ (i := 11) (N := some 37) (bz 19 16383) rfl rfl (one_of HT_.out (by kernel_rfl)) (by decide) (fun K hK => ?_)
         refine Kd.R_lit_step (Kd.int .i64) _ 3 ?hg (N := 37) ?hd (xs := ([t230, t233, 1000, 1001] : List Int)) (inner := [.int .i64 t230, .int .i64 t233, .int .i64 1000, .int .i64 1001]) (ok := fun _ => True) (okp := fun _ => True) ?hr ?hp (fun _ hk => hk) trivial (Below.refl _ _) (Nat.le_refl _) (by simp) ?_; (case hd => rfl); (case hg => rfl); (case hr => first | (go_simp; done) | (go_simp; rfl)); (case hp => exact (Reps.one (show Kd.M (Kd.int .i64) _ _ _ t230 [.int .i64 t230] from rfl) (Reps.one (show Kd.M (Kd.int .i64) _ _ _ t233 [.int .i64 t233] from rfl) (Reps.one (show Kd.M (Kd.int .i64) _ _ _ 1000 [.int .i64 1000] from rfl) (Reps.one (show Kd.M (Kd.int .i64) _ _ _ 1001 [.int .i64 1001] from rfl) (Reps.none _ _))))))
         intro v237 w52 ho53 hb hg_ hnew_
         clear hg_ hnew_
         (first | rw [← Ny236.out] at ho53 | (simp only [Int.reduceToNat] at ho53; rw [← Ny236.out] at ho53))
         have n0_ := Aside0.mk (Kd.R_below (zb79) hb)
         have n1_ := Aside0.mk (Kd.R_lower ho53 (keep_size (w := w) (g := g) (row := none) (zb87)))
         have n2_ := Aside0.mk (IsS102.below (zb85) hb)
         have n3_ := Aside0.mk (blk_below (g := gb206) (o := .cells #[.int .i64 0, .slice none 0 0] 53 (0, 0)) (zb77) hb)
         have n4_ := Aside0.mk (blk_below (g := gb213) (o := .cells #[.int .i64 t207, .slice Ao45 t208.length co45] 53 (0, 0)) (zb88) hb)
         have n5_ := Aside0.mk (KeepBut.trans (zb87) (KeepBut.of_below hb g none) (.inl rfl))
         have n6_ := Aside0.mk (below_step (zb89) hb)
         clear HO210
         clear HI0
         clear BK206
         clear BK213
         clear HK
         clear HB
         have HO210 := n0_
         have HO238 := n1_
         have HI0 := n2_
         have BK206 := n3_
         have BK213 := n4_
         have HK := n5_
         have HB := n6_
         clear n0_ n1_ n2_ n3_ n4_ n5_ n6_
         clear hb ho53
         obtain ⟨Ao54, co54, eo54⟩ := Kd.R_slice HO238.out
         subst eo54
         obtain ⟨ado54, fo54, _⟩ := Kd.at_int (Kd.R_reads' HO238.out).2.2 0 (by decide) (by rw [Ny236.out]; simp)
         cases fo54
         refine hK.out _ _ ⟨(blk_cell BK213.out 0).trans rfl, (blk_cell BK213.out 1).trans rfl⟩ (fun hHeld => ?_)
         clear hK K
         refine norm_ (a' := ?_) ?_ ?_
         rotate_left
         ·show Act.put _ (some 37) _ = _
          simp only [Act.put, List.setIfInBounds_toArray, List.set_cons_zero, List.set_cons_succ, i64_w, i32_w]
          rfl
         exact norm_ (zb31) (hCont (.slice (some ado54) y236.length co54, ado54) _ ⟨hHeld, (zb79), (zb91), ⟨_, rfl⟩, (zb77), (zb88), (zb85), (zb87), (zb89)⟩)
       rintro ⟨v237, adz_v237⟩ w55 ⟨hS_, h0_, h1_, h2_, h3_, h4_, h5_, h6_, h7_⟩
       have n0_ : Aside0 (Kd.R k63 63 w55 w.heap.size (fun _ => True) (.slice Ao45 t208.length co45) t208) := ⟨h0_⟩
       have n1_ : Aside0 (Kd.R (Kd.int .i64) 3 w55 w.heap.size (fun _ => True) v237 y236) := ⟨h1_⟩
       have n2_ : Aside0 (∃ c_, (v237 : Value) = .slice (some adz_v237) y236.length c_) := ⟨h2_⟩
       have n3_ : Aside0 (w55.heap[gb206]? = some (.cells #[.int .i64 0, .slice none 0 0] 53 (0, 0))) := ⟨h3_⟩
       have n4_ : Aside0 (w55.heap[gb213]? = some (.cells #[.int .i64 t207, .slice Ao45 t208.length co45] 53 (0, 0))) := ⟨h4_⟩
       have n5_ : Aside0 (IsS102 w0 w55 g s0_0 t240 t241) := ⟨h5_⟩
       have n6_ : Aside0 (KeepBut w w55 g none) := ⟨h6_⟩
       have n7_ : Aside0 (Below w0.heap.size w0 w55) := ⟨h7_⟩
       clear HO210
       clear BK206
       clear BK213
       clear HI0
       clear HK
       clear HB
       clear h0_ h1_ h2_ h3_ h4_ h5_ h6_ h7_
       have HO210 := n0_
       have HO238 := n1_
       have HA_HO238 := n2_
       have BK206 := n3_
       have BK213 := n4_
       have HI0 := n5_
       have HK := n6_
       have HB := n7_
       clear n0_ n1_ n2_ n3_ n4_ n5_ n6_ n7_
       have hHeld : w55.cell? ⟨gb213, 0, none⟩ = some (.int .i64 t207) ∧ w55.cell? ⟨gb213, 1, none⟩ = some (.slice Ao45 t208.length co45) := hS_
       obtain ⟨co56, eo56⟩ := HA_HO238.out
       clear HA_HO238
       subst eo56
       have p38 : 0 ≤ (t227 : Int) := of_decide_eq_true (zb9)
       have q38 : (t227 : Int) < ((t208.length : Int) : Int) := of_decide_eq_true (zb9)
       obtain ⟨go38, co38, eo38, gb38, gl38, cl38, HG38⟩ := Kd.R_form HO210.out (by omega)
       (first | cases eo38 | (injection eo38 with ea_ en_ ec_; (first | subst ea_ | (injection ea_ with ea_; subst ea_)); subst ec_; clear en_))
       have GB38 := Aside0.mk gb38
       have GG38 := Aside0.mk HG38
       clear gb38 gl38 HG38
       obtain ⟨ce38, hcl38, hM38, hcc38, hfr38⟩ := Kd.R_elem HO210.out z63 (t227 : Int) p38 q38
       obtain rfl := k63_openM hM38
       have hx38_0 : World.cell? _ ⟨go38, (t227 : Int).toNat * 2, none⟩ = some (.int .i64 ((rd_T63 t208 t227).f0)) := hcc38 0 _ rfl
       have hx38_1 : World.cell? _ ⟨go38, (t227 : Int).toNat * 2 + 1, none⟩ = some (.bool ((rd_T63 t208 t227).f1)) := hcc38 1 _ rfl
       have hf38_0 : World.frozen? _ ⟨go38, (t227 : Int).toNat * 2, none⟩ = false := hfr38 0
       have hf38_1 : World.frozen? _ ⟨go38, (t227 : Int).toNat * 2 + 1, none⟩ = false := hfr38 1
       clear hcl38 hcc38 hfr38 hM38
       replace p38 := eq_true p38
       replace q38 := eq_true q38
       have HN0_go38 := Aside0.mk (show g ≠ go38 from by have h_ := IsS102.own_ne HI0.out HO210.out (by decide); intro e_; exact h_ (by rw [e_]; rfl))
       obtain ⟨ce57, hcl57, hM57, hcc57, hfr57⟩ := Kd.R_elem HO210.out z63 (t227 : Int) (of_decide_eq_true (zb9)) (by have h_ : (t227 : Int) < ((t208.length : Int) : Int) := of_decide_eq_true (zb9); first | exact h_ | (have e_ := (Kd.R_reads' HO210.out).1; omega) | simpa using h_)
       obtain rfl := k63_openM hM57
       have HP57 := (Kd.R_seg HO210.out (t227 : Int) (of_decide_eq_true (zb9)) (by have h_ : (t227 : Int) < ((t208.length : Int) : Int) := of_decide_eq_true (zb9); first | exact h_ | (have e_ := (Kd.R_reads' HO210.out).1; omega) | simpa using h_) (seg := [.int .i64 (rd y236 t239)]) (j := 0) hcl57 hcc57 (show 1 ≤ 2 from by decide) (x' := (⟨rd y236 t239, (rd_T63 t208 t227).f1⟩ : S63)) (k63_mkM _ _ _ (⟨rd y236 t239, (rd_T63 t208 t227).f1⟩ : S63) ) (fun _ hk => hk)).1
       rw [← Ny243.out] at HP57
       have HQ57 := Aside0.mk HP57
       clear hcl57 hcc57 hfr57 hM57 HP57
       refine norm_ (a' := ?_) ?_ ?_
       rotate_left
       ·simp only [putAll, Act.put, List.setIfInBounds_toArray, List.set_cons_zero, List.set_cons_succ]
        rfl
       refine pz 14 40 (bz 19 32767) rfl rfl ?_
       refine one_ (i := 15) (N := some 41) (bz 19 65535) rfl rfl (one_of HT_.out (by kernel_rfl)) (by decide) (fun K hK => ?_)
       (have p242 : 0 ≤ (t239 : Int) := of_decide_eq_true (zb9); have q242 : t239 < (y236.length : Int) := of_decide_eq_true (zb9); obtain ⟨ad242, e242, hx242_0⟩ := Kd.at_int (Kd.R_reads' HO238.out).2.2 t239 p242 q242; obtain rfl : adz_v237 = ad242 := (by injection e242))
       refine value_ (w1 := ?_) (v := ?_) (by rfl) rfl ?_ ?_
       rotate_left 2
       ·go_simp
        constructor
        ·rfl
        ·rfl
       clear hx242_0
       refine hK.out _ _ ⟨(blk_cell BK213.out 0).trans rfl, (blk_cell BK213.out 1).trans rfl⟩ (fun hHeld => ?_)
       clear hK K
       refine norm_ (a' := ?_) ?_ ?_
       rotate_left
       ·show Act.put _ (some 41) _ = _
        simp only [Act.put, List.setIfInBounds_toArray, List.set_cons_zero, List.set_cons_succ, i64_w, i32_w]
        rfl
       refine pz 16 42 (bz 19 131071) rfl rfl ?_
       refine pz 17 43 (bz 19 262143) rfl rfl ?_
       refine last_ (i := 18) (N := none) (bz 19 524287) rfl rfl (one_of HT_.out (by kernel_rfl)) (by decide) (fun K hK => ?_)
       refine skip_ (w1 := ?_) (by rfl) rfl ?_ ?_
       rotate_left
       ·go_simp
        rfl
       refine hK.out _ _ ?_
       clear hK K
       refine done_ (done_of HT_.out (by kernel_rfl)) ?_
       have n0_ : Aside0 (Kd.R k63 63 (w55.setCell ⟨go38, (t227 : Int).toNat * 2, none⟩ (.int .i64 (rd y236 t239))) w.heap.size (fun _ => True) (.slice (some ⟨go38, 0, none⟩) t208.length co45) y243) := ⟨by (with_reducible repeat (first | apply Kd.R_alloc | apply Kd.R_drewN | apply Kd.R_drew)); exact HQ57.out⟩
       have n1_ : Aside0 (Kd.R (Kd.int .i64) 3 (w55.setCell ⟨go38, (t227 : Int).toNat * 2, none⟩ (.int .i64 (rd y236 t239))) w.heap.size (fun _ => True) (.slice (some adz_v237) y236.length co56) y236) := ⟨by (with_reducible repeat (first | apply Kd.R_alloc | apply Kd.R_drewN | apply Kd.R_drew)); exact Kd.R_mono (Kd.R_far (p := ⟨go38, (t227 : Int).toNat * 2, none⟩) (Kd.R_types HO238.out GG38.out (by decide)) (fun _ hk => hk.2) (.int .i64 (rd y236 t239))) (fun _ hk => trivial)⟩
       have n2_ : Aside0 ((w55.setCell ⟨go38, (t227 : Int).toNat * 2, none⟩ (.int .i64 (rd y236 t239))).heap[gb206]? = some (.cells #[.int .i64 0, .slice none 0 0] 53 (0, 0))) := ⟨by (with_reducible repeat (first | refine blk_drewN ?_ _ | refine blk_drew ?_ | refine blk_alloc ?_ _)); refine blk_far ?_ (by have h_ := Kd.R_ne HO210.out BK206.out (by decide); intro e_; exact h_ (by rw [e_]; rfl)) _; (with_reducible repeat (first | refine blk_drewN ?_ _ | refine blk_drew ?_ | refine blk_alloc ?_ _)); exact BK206.out⟩
       have n3_ : Aside0 ((w55.setCell ⟨go38, (t227 : Int).toNat * 2, none⟩ (.int .i64 (rd y236 t239))).heap[gb213]? = some (.cells #[.int .i64 t207, .slice (some ⟨go38, 0, none⟩) t208.length co45] 53 (0, 0))) := ⟨by (with_reducible repeat (first | refine blk_drewN ?_ _ | refine blk_drew ?_ | refine blk_alloc ?_ _)); refine blk_far ?_ (by have h_ := Kd.R_ne HO210.out BK213.out (by decide); intro e_; exact h_ (by rw [e_]; rfl)) _; (with_reducible repeat (first | refine blk_drewN ?_ _ | refine blk_drew ?_ | refine blk_alloc ?_ _)); exact BK213.out⟩
       have n4_ : Aside0 (IsS102 w0 (w55.setCell ⟨go38, (t227 : Int).toNat * 2, none⟩ (.int .i64 (rd y236 t239))) g s0_0 t240 t241) := ⟨by repeat (first | (with_reducible first | exact HI0.out | apply IsS102.alloc | apply IsS102.drewN | apply IsS102.drew | apply IsS102.set_1 | apply IsS102.set_2 | refine IsS102.far ?_ HN0_go38.out _ | refine IsS102.far ?_ NB0_206.out _ | refine IsS102.far ?_ NB0_213.out _) | exact HI0.out)⟩
       have n5_ : Aside0 (KeepBut w (w55.setCell ⟨go38, (t227 : Int).toNat * 2, none⟩ (.int .i64 (rd y236 t239))) g none) := ⟨by repeat (first | (with_reducible first | exact HK.out | apply KeepBut.set_ | apply keep_drewN | apply keep_drew | apply keep_alloc | refine keep_far ?_ GB38.out _ | refine keep_far ?_ GW206.out _ | refine keep_far ?_ GW213.out _) | exact HK.out)⟩
       have n6_ : Aside0 (Below w0.heap.size w0 (w55.setCell ⟨go38, (t227 : Int).toNat * 2, none⟩ (.int .i64 (rd y236 t239)))) := ⟨by repeat (first | (with_reducible first | exact HB.out | apply below_alloc | apply pw_below_drewN | apply below_drew1 | refine below_set ?_ (Nat.le_trans HL.out GB38.out) | refine below_set ?_ (IsS102.ge HI0.out) | refine below_set ?_ GE206.out | refine below_set ?_ GE213.out) | exact HB.out)⟩
       (try clear HO210)
       (try clear HO238)
       (try clear BK206)
       (try clear BK213)
       (try clear HI0)
       (try clear HK)
       (try clear HB)
       generalize (w55.setCell ⟨go38, (t227 : Int).toNat * 2, none⟩ (.int .i64 (rd y236 t239))) = w58 at n0_ n1_ n2_ n3_ n4_ n5_ n6_ ⊢
       have HO210 := n0_
       have HO238 := n1_
       have BK206 := n2_
       have BK213 := n3_
       have HI0 := n4_
       have HK := n5_
       have HB := n6_
       clear n0_ n1_ n2_ n3_ n4_ n5_ n6_
       have hcz59_0 : w58.cell? ⟨gb213, 0, none⟩ = some (.int .i64 t207) := (blk_cell BK213.out 0).trans rfl
       have hcz59_1 : w58.cell? ⟨gb213, 1, none⟩ = some (.slice (some ⟨go38, 0, none⟩) t208.length co45) := (blk_cell BK213.out 1).trans rfl
       have hfz59_0 := blk_frozen BK213.out 0
       have hfz59_1 := blk_frozen BK213.out 1
       have hnb60 := NB206_0.out
       have hnc60 := NB0_206.out
       have hcz61_0 : w58.cell? ⟨gb206, 0, none⟩ = some (.int .i64 0) := (blk_cell BK206.out 0).trans rfl
       have hcz61_1 : w58.cell? ⟨gb206, 1, none⟩ = some (.slice none 0 0) := (blk_cell BK206.out 1).trans rfl
       have hfz61_0 := blk_frozen BK206.out 0
       have hfz61_1 := blk_frozen BK206.out 1
       try go_wp2
       refine bodyPost_ret (results_cell_row rfl _ _ gb206 53 #[.int .i64 t207, .slice (some ⟨go38, 0, none⟩) t208.length co45] (0, 0) _ rfl (zb92) Try.underlying53 rfl (by kernel_rfl)) rfl ?_
       exact ⟨_, zb5, by (with_reducible repeat (first | apply Kd.R_alloc | apply Kd.R_drewN | apply Kd.R_drew)); exact Kd.R_mono (Kd.R_far (p := ⟨gb206, 1, none⟩) (Kd.R_far (p := ⟨gb206, 0, none⟩) (Kd.R_types HO210.out BK206.out (by decide)) (fun _ hk => hk.2) (.int .i64 t207)) (fun _ hk => hk.2) (.slice (some ⟨go38, 0, none⟩) t208.length co45)) (fun _ hk => trivial), zb85, zb89, zb87⟩
      ·rw [if_neg c37] at H
       exact absurd H (by simp)
     ·rw [if_neg c36] at H
      exact absurd H (by simp)
    ·rw [if_neg c35] at H
     exact absurd H (by simp)
   ·rw [if_neg c34] at H
    exact absurd H (by simp)
  ·rw [if_neg c29] at H
   have c29b0 : (t214 == 1) = false := beq_eq_false_iff_ne.mpr c29
   have c29b1 : (t214 != 1) = true := bne_iff_ne.mpr c29
   by_cases c62 : t214 = 2
   ·rw [if_pos c62] at H
    have c62b0 : (t214 == 2) = true := beq_iff_eq.mpr c62
    have c62b1 : (t214 != 2) = false := bne_eq_false_iff_eq.mpr c62
    clear c62
    by_cases c63 : t208.length + 4 < 8796093022208
    ·rw [if_pos c63] at H
     have LMc63 := Aside0.mk c63
     clear c63
     obtain ⟨y244, hy244⟩ : ∃ y_ : List (S63), y_ = (t208 ++ List.replicate 4 z63) := ⟨_, rfl⟩
     replace H : ((spec_l01Cur_pick.f s0_0 t215 t216 6).bind fun bt247 => (if 0 ≤ bt247.1 then (if bt247.1 ≤ (y244.length : Int) then (some (t207, (y244.take (bt247.1 : Int).toNat), bt247.2.1, bt247.2.2)) else (none)) else (none))) = some (r1, r2, r3, r4) := by first | (rw [hy244]; with_reducible exact H) | (have H2_ := (Option.bind_some _ _).symm.trans H; rw [hy244]; with_reducible exact H2_) | (have H2_ := (Option.bind_some _ _).symm.trans H; with_reducible exact H2_) | with_reducible exact H | (rw [hy244]; exact H) | exact H
     have Ny244 := Aside0.mk hy244
     clear hy244
     replace H := Option.bind_eq_some_iff.mp H
     obtain ⟨⟨t247, t248, t249⟩, A640, H⟩ := H
     replace H : (if 0 ≤ t247 then (if t247 ≤ (y244.length : Int) then (some (t207, (y244.take (t247 : Int).toNat), t248, t249)) else (none)) else (none)) = some (r1, r2, r3, r4) := H
     have A64 := Aside0.mk A640
     clear A640
     by_cases c65 : 0 ≤ t247
     ·rw [if_pos c65] at H
      have c65b0 := eq_true c65
      have c65b1 : decide (0 ≤ t247) = true := decide_eq_true c65
      clear c65
      by_cases c66 : t247 ≤ (y244.length : Int)
      ·rw [if_pos c66] at H
       have c66b0 := eq_true c66
       have c66b1 : decide (t247 ≤ (y244.length : Int)) = true := decide_eq_true c66
       clear c66
       obtain ⟨y250, hy250⟩ : ∃ y_ : List (S63), y_ = (y244.take (t247 : Int).toNat) := ⟨_, rfl⟩
       replace H : (some (t207, y250, t248, t249)) = some (r1, r2, r3, r4) := by first | (rw [hy250]; with_reducible exact H) | (have H2_ := (Option.bind_some _ _).symm.trans H; rw [hy250]; with_reducible exact H2_) | (have H2_ := (Option.bind_some _ _).symm.trans H; with_reducible exact H2_) | with_reducible exact H | (rw [hy250]; exact H) | exact H
       have Ny250 := Aside0.mk hy250
       clear hy250
       simp only [Option.some.injEq, Prod.mk.injEq] at H
       obtain ⟨rfl, rfl, rfl, rfl⟩ := H
       go_enter Try.func66, Try.ntmps66
       go_wp2_with (first | ((with_reducible refine gate_dst (N := 2) rfl ?_); refine box_event ?hg (N := 2) ?hd (cs := #[.int .i64 0, .slice none 0 0]) (t := 53) ?hr ?_; (case hd => rfl); (case hg => rfl); (case hr => first | (go_simp; done) | (go_simp; rfl)); intro gb206 hg w67 hbox hb; have n0_ := Aside0.mk (IsS102.below (zb6) hb); have n1_ := Aside0.mk (KeepBut.trans (zb8) (KeepBut.of_below hb g none) (.inl rfl)); have n2_ := Aside0.mk (below_step (zb7) hb); have n3_ := Aside0.mk (hbox); have n4_ := Aside0.mk ((by rw [hg]; exact (keep_size (w := w) (g := g) (row := none) (zb8)) : w.heap.size ≤ gb206)); have n5_ := Aside0.mk ((Nat.le_trans HW0.out (by rw [hg]; exact (keep_size (w := w) (g := g) (row := none) (zb8)) : w.heap.size ≤ gb206) : w0.heap.size ≤ gb206)); have n6_ := Aside0.mk ((by rw [hg]; exact Nat.ne_of_lt (IsS102.lt (show IsS102 w0 _ g s0_0 s0_1 s0_2 from zb6)) : g ≠ gb206)); have n7_ := Aside0.mk ((by rw [hg]; exact Nat.ne_of_gt (IsS102.lt (show IsS102 w0 _ g s0_0 s0_1 s0_2 from zb6)) : gb206 ≠ g)); clear HI0; clear HK; clear HB; have HI0 := n0_; have HK := n1_; have HB := n2_; have BK206 := n3_; have GW206 := n4_; have GE206 := n5_; have NB0_206 := n6_; have NB206_0 := n7_; clear n0_ n1_ n2_ n3_ n4_ n5_ n6_ n7_; clear hb hbox hg) | ((with_reducible refine gate_callee (f := 84) rfl ?_); refine goesL_ (some 5) rfl rfl Try.func84 (by kernel_rfl) rfl #[.pointer (some ⟨g, 0, none⟩)] rfl (zb10) ?_; (with_reducible refine (spec_l01Cur_marks.calls k g s0_0 s0_1 s0_2 t207 t208 t211 t212 w0 _ ?side1 ?side2 A2.out).mono ?_); (case side1 => exact zb75); (case side2 => exact zb76); rintro e w68 ⟨v209, rfl, ho0, hi, hb, hk⟩; refine ⟨_, rfl, ?_⟩; have n0_ := Aside0.mk (KeepBut.blk hk (g' := gb206) (o := .cells #[.int .i64 0, .slice none 0 0] 53 (0, 0)) (zb77) NB206_0.out (by simp)); have n1_ := Aside0.mk (Kd.R_lower ho0 (keep_size (w := w) (g := g) (row := none) (zb78))); have n2_ := Aside0.mk (KeepBut.trans (zb78) hk (.inl rfl)); have n3_ := Aside0.mk (hb); have n4_ := Aside0.mk (hi); clear BK206; clear HK; clear HB; clear HI0; have BK206 := n0_; have HO210 := n1_; have HK := n2_; have HB := n3_; have HI0 := n4_; clear n0_ n1_ n2_ n3_ n4_; (try clear hb); (try clear hb2); (try clear hk); (try clear hi); (try clear ho0)) | ((with_reducible refine gate_dst (N := 3) rfl ?_); refine box_event ?hg (N := 3) ?hd (cs := #[.int .i64 0, .slice none 0 0]) (t := 53) ?hr ?_; (case hd => rfl); (case hg => rfl); (case hr => first | (go_simp; done) | (go_simp; rfl)); intro gb213 hg w69 hbox hb; have n0_ := Aside0.mk (Kd.R_below (zb79) hb); have n1_ := Aside0.mk (IsS102.below (zb80) hb); have n2_ := Aside0.mk (blk_below (g := gb206) (o := .cells #[.int .i64 0, .slice none 0 0] 53 (0, 0)) (zb77) hb); have n3_ := Aside0.mk (KeepBut.trans (zb78) (KeepBut.of_below hb g none) (.inl rfl)); have n4_ := Aside0.mk (below_step (zb81) hb); have n5_ := Aside0.mk (hbox); have n6_ := Aside0.mk ((by rw [hg]; exact (keep_size (w := w) (g := g) (row := none) (zb78)) : w.heap.size ≤ gb213)); have n7_ := Aside0.mk ((Nat.le_trans HW0.out (by rw [hg]; exact (keep_size (w := w) (g := g) (row := none) (zb78)) : w.heap.size ≤ gb213) : w0.heap.size ≤ gb213)); have n8_ := Aside0.mk ((by rw [hg]; exact Nat.ne_of_lt (blk_lt (g := gb206) (o := .cells #[.int .i64 0, .slice none 0 0] 53 (0, 0)) (zb77)) : gb206 ≠ gb213)); have n9_ := Aside0.mk ((by rw [hg]; exact Nat.ne_of_gt (blk_lt (g := gb206) (o := .cells #[.int .i64 0, .slice none 0 0] 53 (0, 0)) (zb77)) : gb213 ≠ gb206)); have n10_ := Aside0.mk ((by rw [hg]; exact Nat.ne_of_lt (IsS102.lt (show IsS102 w0 _ g s0_0 t211 t212 from zb80)) : g ≠ gb213)); have n11_ := Aside0.mk ((by rw [hg]; exact Nat.ne_of_gt (IsS102.lt (show IsS102 w0 _ g s0_0 t211 t212 from zb80)) : gb213 ≠ g)); clear HO210; clear HI0; clear BK206; clear HK; clear HB; have HO210 := n0_; have HI0 := n1_; have BK206 := n2_; have HK := n3_; have HB := n4_; have BK213 := n5_; have GW213 := n6_; have GE213 := n7_; have NB206_213 := n8_; have NB213_206 := n9_; have NB0_213 := n10_; have NB213_0 := n11_; clear n0_ n1_ n2_ n3_ n4_ n5_ n6_ n7_ n8_ n9_ n10_ n11_; clear hb hbox hg; have hnb70 := NB213_206.out; have hnc70 := NB206_213.out; have hnb71 := NB213_0.out; have hnc71 := NB0_213.out; have hcz72_0 : w69.cell? ⟨gb213, 0, none⟩ = some (.int .i64 0) := (blk_cell BK213.out 0).trans rfl; have hcz72_1 : w69.cell? ⟨gb213, 1, none⟩ = some (.slice none 0 0) := (blk_cell BK213.out 1).trans rfl; have hfz72_0 := blk_frozen BK213.out 0; have hfz72_1 := blk_frozen BK213.out 1; obtain ⟨Ao73, co73, eo73⟩ := Kd.R_slice HO210.out; subst eo73) | ((with_reducible refine gate_callee (f := 67) rfl ?_); refine goesL_ (some 7) rfl rfl Try.func67 (by kernel_rfl) rfl #[.pointer (some ⟨g, 0, none⟩), .int .i64 12] rfl (zb10) ?_; (with_reducible refine (spec_l01Cur_pick.calls g s0_0 t211 t212 12 t214 t215 t216 w0 _ ?side1 ?side2 A3.out).mono ?_); (case side1 => exact zb82); (case side2 => exact zb83); rintro e w74 ⟨rfl, hi, hb, hk⟩; refine ⟨_, rfl, ?_⟩; have n0_ := Aside0.mk (KeepBut.blk hk (g' := gb206) (o := .cells #[.int .i64 0, .slice none 0 0] 53 (0, 0)) (zb84) NB206_0.out (by simp)); have n1_ := Aside0.mk (Kd.R_mono (Kd.R_keep (IsS102.apart (show IsS102 w0 _ g s0_0 t211 t212 from zb85) (by (with_reducible repeat (first | apply Kd.R_alloc | apply Kd.R_drewN | apply Kd.R_drew)); exact (Kd.R_mono (Kd.R_far (p := ⟨gb213, 1, none⟩) (Kd.R_far (p := ⟨gb213, 0, none⟩) (Kd.R_types HO210.out BK213.out (by decide)) (fun _ hk => hk.2) (.int .i64 t207)) (fun _ hk => hk.2) (.slice Ao73 t208.length co73)) (fun _ h_ => h_.1))) (by decide)) hk (fun _ h => h.2)) (fun _ h => h.1)); have n2_ := Aside0.mk (KeepBut.blk hk (g' := gb213) (o := .cells #[.int .i64 t207, .slice Ao73 t208.length co73] 53 (0, 0)) (zb86) NB213_0.out (by simp)); have n3_ := Aside0.mk (KeepBut.trans (zb87) hk (.inl rfl)); have n4_ := Aside0.mk (hb); have n5_ := Aside0.mk (hi); clear BK206; clear HO210; clear BK213; clear HK; clear HB; clear HI0; have BK206 := n0_; have HO210 := n1_; have BK213 := n2_; have HK := n3_; have HB := n4_; have HI0 := n5_; clear n0_ n1_ n2_ n3_ n4_ n5_; (try clear hb); (try clear hb2); (try clear hk); (try clear hi); have hcz75_0 : w74.cell? ⟨gb213, 0, none⟩ = some (.int .i64 t207) := (blk_cell BK213.out 0).trans rfl; have hcz75_1 : w74.cell? ⟨gb213, 1, none⟩ = some (.slice Ao73 t208.length co73) := (blk_cell BK213.out 1).trans rfl; have hfz75_0 := blk_frozen BK213.out 0; have hfz75_1 := blk_frozen BK213.out 1) | (at_builtin; refine Kd.R_append_zeros k63 w.heap.size rfl (.tmp 47) (.const (.int .i64 4)) 51 3 63 (.agg #[(.int .i64 0), (.bool false)]) 16 rfl Try.underlying51 Try.underlying3 info63 rfl (by decide) (by omega) (.slice Ao73 t208.length co73) t208 z63 (4 : Int) (fun _ => True) rfl rfl (k63_mkM _ _ _ z63 ) ?aF ?aO (by omega) (Below.refl _ _) ?aS ?aL ?_; (case aF => exact (fun _ _ => trivial)); (case aO => exact (zb79)); (case aS => exact (keep_size (w := w) (g := g) (row := none) (zb87))); (case aL => have := LMc63.out; omega); intro v245 w76 ho hb hg hat; (first | rw [← Ny244.out] at ho | (simp only [Int.reduceToNat] at ho; rw [← Ny244.out] at ho)); have n0_ := Aside0.mk (IsS102.grown (zb85) hg (IsS102.own_ne HI0.out HO210.out (by decide))); have n1_ := Aside0.mk (blk_grown (g := gb206) (o := .cells #[.int .i64 0, .slice none 0 0] 53 (0, 0)) (zb77) hg (Kd.R_ne HO210.out BK206.out (by decide))); have n2_ := Aside0.mk (blk_grown (g := gb213) (o := .cells #[.int .i64 t207, .slice Ao73 t208.length co73] 53 (0, 0)) (zb88) hg (Kd.R_ne HO210.out BK213.out (by decide))); have n3_ := Aside0.mk (below_weaken (zb89) HL.out hb); have n4_ := Aside0.mk (KeepBut.trans (zb87) (KeepBut.of_grown hg g) (Kd.R_base2 HO210.out)); have n5_ := Aside0.mk (ho); clear HI0; clear BK206; clear BK213; clear HB; clear HK; clear HO210; have HI0 := n0_; have BK206 := n1_; have BK213 := n2_; have HB := n3_; have HK := n4_; have HO246 := n5_; clear n0_ n1_ n2_ n3_ n4_ n5_; clear ho hb hg hat) | ((with_reducible refine gate_callee (f := 67) rfl ?_); refine goesL_ (some 50) rfl rfl Try.func67 (by kernel_rfl) rfl #[.pointer (some ⟨g, 0, none⟩), .int .i64 6] rfl (zb10) ?_; (with_reducible refine (spec_l01Cur_pick.calls g s0_0 t215 t216 6 t247 t248 t249 w0 _ ?side1 ?side2 A64.out).mono ?_); (case side1 => exact zb82); (case side2 => exact zb83); rintro e w77 ⟨rfl, hi, hb, hk⟩; refine ⟨_, rfl, ?_⟩; have n0_ := Aside0.mk (KeepBut.blk hk (g' := gb206) (o := .cells #[.int .i64 0, .slice none 0 0] 53 (0, 0)) (zb77) NB206_0.out (by simp)); have n1_ := Aside0.mk (KeepBut.blk hk (g' := gb213) (o := .cells #[.int .i64 t207, .slice Ao73 t208.length co73] 53 (0, 0)) (zb88) NB213_0.out (by simp)); have n2_ := Aside0.mk (Kd.R_mono (Kd.R_keep (IsS102.apart (show IsS102 w0 _ g s0_0 t215 t216 from zb85) (by (with_reducible repeat (first | apply Kd.R_alloc | apply Kd.R_drewN | apply Kd.R_drew)); exact HO246.out) (by decide)) hk (fun _ h => h.2)) (fun _ h => h.1)); have n3_ := Aside0.mk (KeepBut.trans (zb87) hk (.inl rfl)); have n4_ := Aside0.mk (hb); have n5_ := Aside0.mk (hi); clear BK206; clear BK213; clear HO246; clear HK; clear HB; clear HI0; have BK206 := n0_; have BK213 := n1_; have HO246 := n2_; have HK := n3_; have HB := n4_; have HI0 := n5_; clear n0_ n1_ n2_ n3_ n4_ n5_; (try clear hb); (try clear hb2); (try clear hk); (try clear hi); obtain ⟨Ao78, co78, eo78⟩ := Kd.R_slice HO246.out; subst eo78; have q79 : (t247 : Int) ≤ ((y244.length : Int) : Int) := of_decide_eq_true (zb9); obtain ⟨i079, hi079, _, hsz79, _⟩ := info_parts info63; have hcut79 := cut_to (P := Try.prog) 51 63 .i64 Try.underlying51 hi079 Ao78 y244.length co78 t247 (of_decide_eq_true (zb9)) q79 (Kd.R_reads' HO246.out).2.1; have hr79 := Kd.R_take (m := (t247 : Int).toNat) HO246.out (by omega); have hy79 : y250.length = (t247 : Int).toNat := (by rw [Ny250.out, List.length_take]; omega); rw [← Ny250.out] at hr79; rw [← hy79] at hr79 hcut79; clear hy79 hi079 hsz79 HO246; have HO252 := Aside0.mk hr79; clear hr79; replace q79 := eq_true q79; have hcz80_0 : w77.cell? ⟨gb213, 0, none⟩ = some (.int .i64 t207) := (blk_cell BK213.out 0).trans rfl; have hcz80_1 : w77.cell? ⟨gb213, 1, none⟩ = some (.slice Ao73 t208.length co73) := (blk_cell BK213.out 1).trans rfl; have hfz80_0 := blk_frozen BK213.out 0; have hfz80_1 := blk_frozen BK213.out 1; have hnb81 := NB206_0.out; have hnc81 := NB0_206.out; have hcz82_0 : w77.cell? ⟨gb206, 0, none⟩ = some (.int .i64 0) := (blk_cell BK206.out 0).trans rfl; have hcz82_1 : w77.cell? ⟨gb206, 1, none⟩ = some (.slice none 0 0) := (blk_cell BK206.out 1).trans rfl; have hfz82_0 := blk_frozen BK206.out 0; have hfz82_1 := blk_frozen BK206.out 1))
       refine bodyPost_ret (results_cell_row rfl _ _ gb206 53 #[.int .i64 t207, .slice Ao78 y250.length co78] (0, 0) _ rfl (by (with_reducible repeat (first | refine blk_drewN ?_ _ | refine blk_drew ?_ | refine blk_alloc ?_ _)); refine blk_put (cs := #[.int .i64 t207, .slice none 0 0]) ?_ 1 _ rfl; (with_reducible repeat (first | refine blk_drewN ?_ _ | refine blk_drew ?_ | refine blk_alloc ?_ _)); refine blk_put (cs := #[.int .i64 0, .slice none 0 0]) ?_ 0 _ rfl; (with_reducible repeat (first | refine blk_drewN ?_ _ | refine blk_drew ?_ | refine blk_alloc ?_ _)); refine blk_far ?_ NB206_213.out _; (with_reducible repeat (first | refine blk_drewN ?_ _ | refine blk_drew ?_ | refine blk_alloc ?_ _)); exact BK206.out) Try.underlying53 rfl (by kernel_rfl)) rfl ?_
       exact ⟨_, zb5, by (with_reducible repeat (first | apply Kd.R_alloc | apply Kd.R_drewN | apply Kd.R_drew)); exact Kd.R_mono (Kd.R_far (p := ⟨gb206, 1, none⟩) (Kd.R_far (p := ⟨gb206, 0, none⟩) (Kd.R_far (p := ⟨gb213, 1, none⟩) (Kd.R_types (Kd.R_types HO252.out BK213.out (by decide)) BK206.out (by decide)) (fun _ hk => hk.1.2) (.slice Ao78 y250.length co78)) (fun _ hk => hk.2) (.int .i64 t207)) (fun _ hk => hk.2) (.slice Ao78 y250.length co78)) (fun _ hk => trivial), zb85, zb89, zb87⟩
      ·rw [if_neg c66] at H
       exact absurd H (by simp)
     ·rw [if_neg c65] at H
      exact absurd H (by simp)
    ·rw [if_neg c63] at H
     exact absurd H (by simp)
   ·rw [if_neg c62] at H
    have c62b0 : (t214 == 2) = false := beq_eq_false_iff_ne.mpr c62
    have c62b1 : (t214 != 2) = true := bne_iff_ne.mpr c62
    simp only [Option.some.injEq, Prod.mk.injEq] at H
    obtain ⟨rfl, rfl, rfl, rfl⟩ := H
    go_enter Try.func66, Try.ntmps66
    go_wp2_with (first | ((with_reducible refine gate_dst (N := 2) rfl ?_); refine box_event ?hg (N := 2) ?hd (cs := #[.int .i64 0, .slice none 0 0]) (t := 53) ?hr ?_; (case hd => rfl); (case hg => rfl); (case hr => first | (go_simp; done) | (go_simp; rfl)); intro gb206 hg w83 hbox hb; have n0_ := Aside0.mk (IsS102.below (zb6) hb); have n1_ := Aside0.mk (KeepBut.trans (zb8) (KeepBut.of_below hb g none) (.inl rfl)); have n2_ := Aside0.mk (below_step (zb7) hb); have n3_ := Aside0.mk (hbox); have n4_ := Aside0.mk ((by rw [hg]; exact (keep_size (w := w) (g := g) (row := none) (zb8)) : w.heap.size ≤ gb206)); have n5_ := Aside0.mk ((Nat.le_trans HW0.out (by rw [hg]; exact (keep_size (w := w) (g := g) (row := none) (zb8)) : w.heap.size ≤ gb206) : w0.heap.size ≤ gb206)); have n6_ := Aside0.mk ((by rw [hg]; exact Nat.ne_of_lt (IsS102.lt (show IsS102 w0 _ g s0_0 s0_1 s0_2 from zb6)) : g ≠ gb206)); have n7_ := Aside0.mk ((by rw [hg]; exact Nat.ne_of_gt (IsS102.lt (show IsS102 w0 _ g s0_0 s0_1 s0_2 from zb6)) : gb206 ≠ g)); clear HI0; clear HK; clear HB; have HI0 := n0_; have HK := n1_; have HB := n2_; have BK206 := n3_; have GW206 := n4_; have GE206 := n5_; have NB0_206 := n6_; have NB206_0 := n7_; clear n0_ n1_ n2_ n3_ n4_ n5_ n6_ n7_; clear hb hbox hg) | ((with_reducible refine gate_callee (f := 84) rfl ?_); refine goesL_ (some 5) rfl rfl Try.func84 (by kernel_rfl) rfl #[.pointer (some ⟨g, 0, none⟩)] rfl (zb10) ?_; (with_reducible refine (spec_l01Cur_marks.calls k g s0_0 s0_1 s0_2 t207 t208 t211 t212 w0 _ ?side1 ?side2 A2.out).mono ?_); (case side1 => exact zb75); (case side2 => exact zb76); rintro e w84 ⟨v209, rfl, ho0, hi, hb, hk⟩; refine ⟨_, rfl, ?_⟩; have n0_ := Aside0.mk (KeepBut.blk hk (g' := gb206) (o := .cells #[.int .i64 0, .slice none 0 0] 53 (0, 0)) (zb77) NB206_0.out (by simp)); have n1_ := Aside0.mk (Kd.R_lower ho0 (keep_size (w := w) (g := g) (row := none) (zb78))); have n2_ := Aside0.mk (KeepBut.trans (zb78) hk (.inl rfl)); have n3_ := Aside0.mk (hb); have n4_ := Aside0.mk (hi); clear BK206; clear HK; clear HB; clear HI0; have BK206 := n0_; have HO210 := n1_; have HK := n2_; have HB := n3_; have HI0 := n4_; clear n0_ n1_ n2_ n3_ n4_; (try clear hb); (try clear hb2); (try clear hk); (try clear hi); (try clear ho0)) | ((with_reducible refine gate_dst (N := 3) rfl ?_); refine box_event ?hg (N := 3) ?hd (cs := #[.int .i64 0, .slice none 0 0]) (t := 53) ?hr ?_; (case hd => rfl); (case hg => rfl); (case hr => first | (go_simp; done) | (go_simp; rfl)); intro gb213 hg w85 hbox hb; have n0_ := Aside0.mk (Kd.R_below (zb79) hb); have n1_ := Aside0.mk (IsS102.below (zb80) hb); have n2_ := Aside0.mk (blk_below (g := gb206) (o := .cells #[.int .i64 0, .slice none 0 0] 53 (0, 0)) (zb77) hb); have n3_ := Aside0.mk (KeepBut.trans (zb78) (KeepBut.of_below hb g none) (.inl rfl)); have n4_ := Aside0.mk (below_step (zb81) hb); have n5_ := Aside0.mk (hbox); have n6_ := Aside0.mk ((by rw [hg]; exact (keep_size (w := w) (g := g) (row := none) (zb78)) : w.heap.size ≤ gb213)); have n7_ := Aside0.mk ((Nat.le_trans HW0.out (by rw [hg]; exact (keep_size (w := w) (g := g) (row := none) (zb78)) : w.heap.size ≤ gb213) : w0.heap.size ≤ gb213)); have n8_ := Aside0.mk ((by rw [hg]; exact Nat.ne_of_lt (blk_lt (g := gb206) (o := .cells #[.int .i64 0, .slice none 0 0] 53 (0, 0)) (zb77)) : gb206 ≠ gb213)); have n9_ := Aside0.mk ((by rw [hg]; exact Nat.ne_of_gt (blk_lt (g := gb206) (o := .cells #[.int .i64 0, .slice none 0 0] 53 (0, 0)) (zb77)) : gb213 ≠ gb206)); have n10_ := Aside0.mk ((by rw [hg]; exact Nat.ne_of_lt (IsS102.lt (show IsS102 w0 _ g s0_0 t211 t212 from zb80)) : g ≠ gb213)); have n11_ := Aside0.mk ((by rw [hg]; exact Nat.ne_of_gt (IsS102.lt (show IsS102 w0 _ g s0_0 t211 t212 from zb80)) : gb213 ≠ g)); clear HO210; clear HI0; clear BK206; clear HK; clear HB; have HO210 := n0_; have HI0 := n1_; have BK206 := n2_; have HK := n3_; have HB := n4_; have BK213 := n5_; have GW213 := n6_; have GE213 := n7_; have NB206_213 := n8_; have NB213_206 := n9_; have NB0_213 := n10_; have NB213_0 := n11_; clear n0_ n1_ n2_ n3_ n4_ n5_ n6_ n7_ n8_ n9_ n10_ n11_; clear hb hbox hg; have hnb86 := NB213_206.out; have hnc86 := NB206_213.out; have hnb87 := NB213_0.out; have hnc87 := NB0_213.out; have hcz88_0 : w85.cell? ⟨gb213, 0, none⟩ = some (.int .i64 0) := (blk_cell BK213.out 0).trans rfl; have hcz88_1 : w85.cell? ⟨gb213, 1, none⟩ = some (.slice none 0 0) := (blk_cell BK213.out 1).trans rfl; have hfz88_0 := blk_frozen BK213.out 0; have hfz88_1 := blk_frozen BK213.out 1; obtain ⟨Ao89, co89, eo89⟩ := Kd.R_slice HO210.out; subst eo89) | ((with_reducible refine gate_callee (f := 67) rfl ?_); refine goesL_ (some 7) rfl rfl Try.func67 (by kernel_rfl) rfl #[.pointer (some ⟨g, 0, none⟩), .int .i64 12] rfl (zb10) ?_; (with_reducible refine (spec_l01Cur_pick.calls g s0_0 t211 t212 12 t214 t215 t216 w0 _ ?side1 ?side2 A3.out).mono ?_); (case side1 => exact zb82); (case side2 => exact zb83); rintro e w90 ⟨rfl, hi, hb, hk⟩; refine ⟨_, rfl, ?_⟩; have n0_ := Aside0.mk (KeepBut.blk hk (g' := gb206) (o := .cells #[.int .i64 0, .slice none 0 0] 53 (0, 0)) (zb84) NB206_0.out (by simp)); have n1_ := Aside0.mk (Kd.R_mono (Kd.R_keep (IsS102.apart (show IsS102 w0 _ g s0_0 t211 t212 from zb85) (by (with_reducible repeat (first | apply Kd.R_alloc | apply Kd.R_drewN | apply Kd.R_drew)); exact (Kd.R_mono (Kd.R_far (p := ⟨gb213, 1, none⟩) (Kd.R_far (p := ⟨gb213, 0, none⟩) (Kd.R_types HO210.out BK213.out (by decide)) (fun _ hk => hk.2) (.int .i64 t207)) (fun _ hk => hk.2) (.slice Ao89 t208.length co89)) (fun _ h_ => h_.1))) (by decide)) hk (fun _ h => h.2)) (fun _ h => h.1)); have n2_ := Aside0.mk (KeepBut.blk hk (g' := gb213) (o := .cells #[.int .i64 t207, .slice Ao89 t208.length co89] 53 (0, 0)) (zb86) NB213_0.out (by simp)); have n3_ := Aside0.mk (KeepBut.trans (zb87) hk (.inl rfl)); have n4_ := Aside0.mk (hb); have n5_ := Aside0.mk (hi); clear BK206; clear HO210; clear BK213; clear HK; clear HB; clear HI0; have BK206 := n0_; have HO210 := n1_; have BK213 := n2_; have HK := n3_; have HB := n4_; have HI0 := n5_; clear n0_ n1_ n2_ n3_ n4_ n5_; (try clear hb); (try clear hb2); (try clear hk); (try clear hi); have hcz91_0 : w90.cell? ⟨gb213, 0, none⟩ = some (.int .i64 t207) := (blk_cell BK213.out 0).trans rfl; have hcz91_1 : w90.cell? ⟨gb213, 1, none⟩ = some (.slice Ao89 t208.length co89) := (blk_cell BK213.out 1).trans rfl; have hfz91_0 := blk_frozen BK213.out 0; have hfz91_1 := blk_frozen BK213.out 1; have hnb92 := NB206_0.out; have hnc92 := NB0_206.out; have hcz93_0 : w90.cell? ⟨gb206, 0, none⟩ = some (.int .i64 0) := (blk_cell BK206.out 0).trans rfl; have hcz93_1 : w90.cell? ⟨gb206, 1, none⟩ = some (.slice none 0 0) := (blk_cell BK206.out 1).trans rfl; have hfz93_0 := blk_frozen BK206.out 0; have hfz93_1 := blk_frozen BK206.out 1))
    refine bodyPost_ret (results_cell_row rfl _ _ gb206 53 #[.int .i64 t207, .slice Ao89 t208.length co89] (0, 0) _ rfl (zb92) Try.underlying53 rfl (by kernel_rfl)) rfl ?_
    exact ⟨_, zb5, by (with_reducible repeat (first | apply Kd.R_alloc | apply Kd.R_drewN | apply Kd.R_drew)); exact Kd.R_mono (Kd.R_far (p := ⟨gb206, 1, none⟩) (Kd.R_far (p := ⟨gb206, 0, none⟩) (Kd.R_types HO210.out BK206.out (by decide)) (fun _ hk => hk.2) (.int .i64 t207)) (fun _ hk => hk.2) (.slice Ao89 t208.length co89)) (fun _ hk => trivial), zb85, zb89, zb87⟩

end Go.Proofs.Ytahnodgbfonlhaa.PFnMarks
