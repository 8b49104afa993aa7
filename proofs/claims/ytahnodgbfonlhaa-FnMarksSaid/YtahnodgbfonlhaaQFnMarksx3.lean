/- Contracts of the functions that the law FnMarks reaches, part 3: each says that the call returns what the Lean function of the same name computes. Made by a program of this session. -/
import Derived.Test.YtahnodgbfonlhaaQFnMarksx0
import Derived.Test.YtahnodgbfonlhaaQFnMarksx1
namespace Go.Proofs.Ytahnodgbfonlhaa.PFnMarks
open Go.RowKit Go.Proofs.YtahnodgbfonlhaaW.PrintWords Go.Proofs.YtahnodgbfonlhaaW.PrintLast Go.Proofs.YtahnodgbfonlhaaW.PrintMore
attribute [local go_sem] max2_int min2_int max_two min_two max_three min_three max_four min_four   -- for this text's walks alone
set_option linter.unusedVariables false
set_option linter.unusedSimpArgs false

/-! ### spec_l05With: function 73 -/
def spec_l05With.f (k : Nat) (a0_0 : Int) (l0_1 : List (S63)) (a1 : Int) (a2_0 : Int) (a2_1 : Bool) : Option (Int × (List (S63))) := (some (([] : List (S63)) : List (S63))).bind fun y135 => (if y135.length + l0_1.length < 8796093022208 then ((some (y135 ++ l0_1 : List (S63))).bind fun y138 => (if 0 ≤ a1 then (if a1 < (y138.length : Int) then ((some (y138.set (a1 : Int).toNat (⟨a2_0, a2_1⟩ : S63) : List (S63))).bind fun y142 => ((spec_MarksLeast.f k a0_0 y142).bind fun t143 => (some (mx a0_0 t143, y142)))) else (none)) else (none))) else (none))
theorem spec_l05With.mono : ∀ a0 a1 a2 a3 a4 k, LeO (spec_l05With.f k a0 a1 a2 a3 a4) (spec_l05With.f (k + 1) a0 a1 a2 a3 a4) := by
 intro a0 a1 a2 a3 a4 k
 unfold spec_l05With.f
 repeat' first
   | (with_reducible exact spec_MarksLeast.mono _ _ _)
   | (with_reducible exact LeO.refl _)
   | (with_reducible exact LeO.none _)
   | (with_reducible refine LeO.ite ?_ ?_)
   | (with_reducible refine LeO.bind ?_ (fun _ => ?_))
   | exact spec_MarksLeast.mono _ _ _
   | exact LeO.none _
   | refine LeO.ite ?_ ?_
   | refine LeO.bind ?_ (fun _ => ?_)
def spec_l05With.T1 : Bool × List (List Nat × List Nat) := (true, [([], []), ([0], [0]), ([], []), ([], []), ([3], [3]), ([2, 4], [2, 4]), ([1, 5], [1, 5]), ([], []), ([7, 6, 5, 0, 1, 2, 3, 4, 5, 6, 7], [6, 7])])
def spec_l05With.B1 : List Nat := [0, 1, 0, 0, 8, 28, 63, 0, 255]
theorem spec_l05With.tab1 : rtab .any (opsOf Try.f73 1) = spec_l05With.T1 := by kernel_rfl
theorem spec_l05With.bits1 : waitsOk spec_l05With.T1.2 spec_l05With.B1 = true := by kernel_rfl
set_option maxHeartbeats 8000000 in
set_option maxRecDepth 100000 in
theorem spec_l05With.calls (k : Nat) (a0_0 : Int) (A0_1 : Option Addr) (c0_1 : Nat) (l0_1 : List (S63)) (a1 : Int) (a2_0 : Int) (a2_1 : Bool) (r1 : Int) (r2 : List (S63)) (w : World) (hr0_1 : Kd.C k63 w A0_1 l0_1.length l0_1) (hc0_1 : l0_1.length ≤ c0_1) (h : spec_l05With.f k a0_0 l0_1 a1 a2_0 a2_1 = some (r1, r2)) :
  Calls Try.prog 73 #[.agg #[.int .i64 a0_0, .slice A0_1 l0_1.length c0_1], .int .i64 a1, .agg #[.int .i64 a2_0, .bool a2_1]] w fun e w' => ∃ v1_ : Value, e = .returned (.agg #[.int .i64 r1, v1_]) ∧ Kd.R k63 63 w' w.heap.size (fun _ => True) v1_ r2 ∧ Below w.heap.size w w' := by
 have hu53 := Try.underlying53
 have hu63 := Try.underlying63
 have HR0_1 := Aside0.mk hr0_1
 have HC0_1 := Aside0.mk hc0_1
 clear hr0_1 hc0_1
 have HB := Aside0.mk (Below.refl w.heap.size w)
 have H : ((some (([] : List (S63)) : List (S63))).bind fun y135 => (if y135.length + l0_1.length < 8796093022208 then ((some (y135 ++ l0_1 : List (S63))).bind fun y138 => (if 0 ≤ a1 then (if a1 < (y138.length : Int) then ((some (y138.set (a1 : Int).toNat (⟨a2_0, a2_1⟩ : S63) : List (S63))).bind fun y142 => ((spec_MarksLeast.f k a0_0 y142).bind fun t143 => (some (mx a0_0 t143, y142)))) else (none)) else (none))) else (none))) = some (r1, r2) := h
 clear h
 obtain ⟨y135, hy135⟩ : ∃ y_ : List (S63), y_ = (([] : List (S63))) := ⟨_, rfl⟩
 replace H : (if y135.length + l0_1.length < 8796093022208 then ((some (y135 ++ l0_1 : List (S63))).bind fun y138 => (if 0 ≤ a1 then (if a1 < (y138.length : Int) then ((some (y138.set (a1 : Int).toNat (⟨a2_0, a2_1⟩ : S63) : List (S63))).bind fun y142 => ((spec_MarksLeast.f k a0_0 y142).bind fun t143 => (some (mx a0_0 t143, y142)))) else (none)) else (none))) else (none)) = some (r1, r2) := by first | (rw [hy135]; with_reducible exact H) | (have H2_ := (Option.bind_some _ _).symm.trans H; rw [hy135]; with_reducible exact H2_) | (have H2_ := (Option.bind_some _ _).symm.trans H; with_reducible exact H2_) | with_reducible exact H | (rw [hy135]; exact H) | exact H
 have Ny135 := Aside0.mk hy135
 clear hy135
 by_cases c4 : y135.length + l0_1.length < 8796093022208
 ·rw [if_pos c4] at H
  have LMc4 := Aside0.mk c4
  clear c4
  obtain ⟨y138, hy138⟩ : ∃ y_ : List (S63), y_ = (y135 ++ l0_1) := ⟨_, rfl⟩
  replace H : (if 0 ≤ a1 then (if a1 < (y138.length : Int) then ((some (y138.set (a1 : Int).toNat (⟨a2_0, a2_1⟩ : S63) : List (S63))).bind fun y142 => ((spec_MarksLeast.f k a0_0 y142).bind fun t143 => (some (mx a0_0 t143, y142)))) else (none)) else (none)) = some (r1, r2) := by first | (rw [hy138]; with_reducible exact H) | (have H2_ := (Option.bind_some _ _).symm.trans H; rw [hy138]; with_reducible exact H2_) | (have H2_ := (Option.bind_some _ _).symm.trans H; with_reducible exact H2_) | with_reducible exact H | (rw [hy138]; exact H) | exact H
  have Ny138 := Aside0.mk hy138
  clear hy138
  by_cases c5 : 0 ≤ a1
  ·rw [if_pos c5] at H
   have c5b0 : decide (0 ≤ a1) = true := decide_eq_true c5
   clear c5
   by_cases c6 : a1 < (y138.length : Int)
   ·rw [if_pos c6] at H
    have c6b0 : decide (a1 < (y138.length : Int)) = true := decide_eq_true c6
    clear c6
    obtain ⟨y142, hy142⟩ : ∃ y_ : List (S63), y_ = (y138.set (a1 : Int).toNat (⟨a2_0, a2_1⟩ : S63)) := ⟨_, rfl⟩
    replace H : ((spec_MarksLeast.f k a0_0 y142).bind fun t143 => (some (mx a0_0 t143, y142))) = some (r1, r2) := by first | (rw [hy142]; with_reducible exact H) | (have H2_ := (Option.bind_some _ _).symm.trans H; rw [hy142]; with_reducible exact H2_) | (have H2_ := (Option.bind_some _ _).symm.trans H; with_reducible exact H2_) | with_reducible exact H | (rw [hy142]; exact H) | exact H
    have Ny142 := Aside0.mk hy142
    clear hy142
    replace H := Option.bind_eq_some_iff.mp H
    obtain ⟨t143, A80, H⟩ := H
    replace H : (some (mx a0_0 t143, y142)) = some (r1, r2) := H
    have A8 := Aside0.mk A80
    clear A80
    obtain ⟨ji9, hji9⟩ : ∃ j_ : Int, (mx a0_0 t143) = j_ := ⟨_, rfl⟩
    replace H : (some (ji9, y142)) = some (r1, r2) := by first | (rw [hji9] at H; exact H) | (simp only [hji9] at H ⊢; exact H)
    (try rw [hji9] at A8)
    have hji9_ : (if a0_0 < t143 then t143 else a0_0) = ji9 := hji9
    simp only [Option.some.injEq, Prod.mk.injEq] at H
    obtain ⟨rfl, rfl⟩ := H
    go_enter Try.func73, Try.ntmps73
    try go_wp2_with (first | ((with_reducible refine gate_dst (N := 3) rfl ?_); refine box_event ?hg (N := 3) ?hd (cs := #[.int .i64 a0_0, .slice A0_1 l0_1.length c0_1]) (t := 53) ?hr ?_; (case hd => rfl); (case hg => rfl); (case hr => first | (go_simp; done) | (go_simp; rfl)); intro gb132 hg w10 hbox hb; have n0_ := Aside0.mk (below_step (zb3) hb); have n1_ := Aside0.mk (hbox); have n2_ := Aside0.mk ((by rw [hg]; exact (below_size (zb3)) : w.heap.size ≤ gb132)); have n3_ := Aside0.mk ((by rw [hg]; exact (below_size (zb3)) : w.heap.size ≤ gb132)); clear HB; have HB := n0_; have BK132 := n1_; have GW132 := n2_; have GE132 := n3_; clear n0_ n1_ n2_ n3_; clear hb hbox hg) | ((with_reducible refine gate_dst (N := 5) rfl ?_); refine box_event ?hg (N := 5) ?hd (cs := #[.int .i64 a2_0, .bool a2_1]) (t := 63) ?hr ?_; (case hd => rfl); (case hg => rfl); (case hr => first | (go_simp; done) | (go_simp; rfl)); intro gb133 hg w11 hbox hb; have n0_ := Aside0.mk (blk_below (g := gb132) (o := .cells #[.int .i64 a0_0, .slice A0_1 l0_1.length c0_1] 53 (0, 0)) (zb22) hb); have n1_ := Aside0.mk (below_step (zb23) hb); have n2_ := Aside0.mk (hbox); have n3_ := Aside0.mk ((by rw [hg]; exact (below_size (zb23)) : w.heap.size ≤ gb133)); have n4_ := Aside0.mk ((by rw [hg]; exact (below_size (zb23)) : w.heap.size ≤ gb133)); have n5_ := Aside0.mk ((by rw [hg]; exact Nat.ne_of_lt (blk_lt (g := gb132) (o := .cells #[.int .i64 a0_0, .slice A0_1 l0_1.length c0_1] 53 (0, 0)) (zb22)) : gb132 ≠ gb133)); have n6_ := Aside0.mk ((by rw [hg]; exact Nat.ne_of_gt (blk_lt (g := gb132) (o := .cells #[.int .i64 a0_0, .slice A0_1 l0_1.length c0_1] 53 (0, 0)) (zb22)) : gb133 ≠ gb132)); clear BK132; clear HB; have BK132 := n0_; have HB := n1_; have BK133 := n2_; have GW133 := n3_; have GE133 := n4_; have NB132_133 := n5_; have NB133_132 := n6_; clear n0_ n1_ n2_ n3_ n4_ n5_ n6_; clear hb hbox hg) | ((with_reducible refine gate_dst (N := 6) rfl ?_); refine box_event ?hg (N := 6) ?hd (cs := #[.int .i64 0, .slice none 0 0]) (t := 53) ?hr ?_; (case hd => rfl); (case hg => rfl); (case hr => first | (go_simp; done) | (go_simp; rfl)); intro gb134 hg w12 hbox hb; have n0_ := Aside0.mk (blk_below (g := gb132) (o := .cells #[.int .i64 a0_0, .slice A0_1 l0_1.length c0_1] 53 (0, 0)) (zb22) hb); have n1_ := Aside0.mk (blk_below (g := gb133) (o := .cells #[.int .i64 a2_0, .bool a2_1] 63 (0, 0)) (zb24) hb); have n2_ := Aside0.mk (below_step (zb25) hb); have n3_ := Aside0.mk (hbox); have n4_ := Aside0.mk ((by rw [hg]; exact (below_size (zb25)) : w.heap.size ≤ gb134)); have n5_ := Aside0.mk ((by rw [hg]; exact (below_size (zb25)) : w.heap.size ≤ gb134)); have n6_ := Aside0.mk ((by rw [hg]; exact Nat.ne_of_lt (blk_lt (g := gb132) (o := .cells #[.int .i64 a0_0, .slice A0_1 l0_1.length c0_1] 53 (0, 0)) (zb22)) : gb132 ≠ gb134)); have n7_ := Aside0.mk ((by rw [hg]; exact Nat.ne_of_gt (blk_lt (g := gb132) (o := .cells #[.int .i64 a0_0, .slice A0_1 l0_1.length c0_1] 53 (0, 0)) (zb22)) : gb134 ≠ gb132)); have n8_ := Aside0.mk ((by rw [hg]; exact Nat.ne_of_lt (blk_lt (g := gb133) (o := .cells #[.int .i64 a2_0, .bool a2_1] 63 (0, 0)) (zb24)) : gb133 ≠ gb134)); have n9_ := Aside0.mk ((by rw [hg]; exact Nat.ne_of_gt (blk_lt (g := gb133) (o := .cells #[.int .i64 a2_0, .bool a2_1] 63 (0, 0)) (zb24)) : gb134 ≠ gb133)); clear BK132; clear BK133; clear HB; have BK132 := n0_; have BK133 := n1_; have HB := n2_; have BK134 := n3_; have GW134 := n4_; have GE134 := n5_; have NB132_134 := n6_; have NB134_132 := n7_; have NB133_134 := n8_; have NB134_133 := n9_; clear n0_ n1_ n2_ n3_ n4_ n5_ n6_ n7_ n8_ n9_; clear hb hbox hg))
    have n0_ := Aside0.mk (blk_drew BK132.out)
    have n1_ := Aside0.mk (blk_drew BK133.out)
    have n2_ := Aside0.mk (blk_drew BK134.out)
    have n3_ := Aside0.mk (below_drew1 HB.out)
    clear BK132
    clear BK133
    clear BK134
    clear HB
    have BK132 := n0_
    have BK133 := n1_
    have BK134 := n2_
    have HB := n3_
    clear n0_ n1_ n2_ n3_
    refine start_ (n := 9) (S := fun w' => w'.cell? ⟨gb132, 0, none⟩ = some (.int .i64 a0_0) ∧ w'.cell? ⟨gb132, 1, none⟩ = some (.slice A0_1 l0_1.length c0_1)) (ds := []) #[false, false, false, false, false, false, false, false, false] (by kernel_rfl) rfl rfl ⟨(blk_cell BK132.out 0).trans rfl, (blk_cell BK132.out 1).trans rfl⟩ (fun hHeld => ?_); refine with_tabW spec_l05With.tab1 spec_l05With.bits1 (fun HT_ HW_ => ?_)
    generalize w12.drew = w13 at BK132 BK133 BK134 HB hHeld ⊢
    refine pz 0 8 (bz 9 1) rfl rfl ?_
    refine pz 3 11 (bz 9 9) rfl rfl ?_
    refine tz 1 9 (bz 9 11) rfl rfl (Or.inl ⟨by rfl, by rintro w' ⟨s0, s1⟩; go_simp; with_reducible rfl⟩) hHeld ?_
    refine tz 4 12 (bz 9 27) rfl rfl (Or.inl ⟨by rfl, by rintro w' ⟨s0, s1⟩; go_simp; with_reducible rfl⟩) hHeld ?_
    refine join_ (σ := Value × Value × Nat) 1 #[true, true, true, true, true, true, true, true, false] (fun s_ => [(10, s_.1), (13, s_.2.1), (7, .pointer (some ⟨s_.2.2, 0, none⟩)), (14, .agg #[.int .i64 a0_0, s_.2.1])]) (fun s_ w' => (w'.cell? ⟨gb132, 0, none⟩ = some (.int .i64 a0_0) ∧ w'.cell? ⟨gb132, 1, none⟩ = some (.slice A0_1 l0_1.length c0_1)) ∧ (Kd.R k63 63 w' w.heap.size (fun k_ => k_ ≠ gb133) s_.2.1 y138) ∧ (w'.heap[gb132]? = some (.cells #[.int .i64 a0_0, .slice A0_1 l0_1.length c0_1] 53 (0, 0))) ∧ (w'.heap[gb133]? = some (.cells #[.int .i64 a2_0, .bool a2_1] 63 (0, 0))) ∧ (w'.heap[gb134]? = some (.cells #[.int .i64 0, .slice none 0 0] 53 (0, 0))) ∧ (w'.heap[s_.2.2]? = some (.cells #[.int .i64 0, .slice none 0 0] 53 (0, 0))) ∧ (w.heap.size ≤ s_.2.2) ∧ (w.heap.size ≤ s_.2.2) ∧ (gb132 ≠ s_.2.2) ∧ (s_.2.2 ≠ gb132) ∧ (gb133 ≠ s_.2.2) ∧ (s_.2.2 ≠ gb133) ∧ (gb134 ≠ s_.2.2) ∧ (s_.2.2 ≠ gb134) ∧ (Below w.heap.size w w')) ?_ ?_
    rotate_left
    ·intro hCont
     refine two_ (i := 2) (j := 7) (Ni := some 10) (Nj := some 7) #[true, true, true, true, true, false, false, false, false] #[true, true, false, true, true, false, false, true, false] rfl rfl rfl rfl (two_of HT_.out (by kernel_rfl)) (by decide) (by decide) (fun K hK => ?_) (fun K hK => ?_)
     ·skip
      refine Kd.R_lit_step k63 _ 63 ?hg (N := 10) ?hd (xs := ([] : List (S63))) (inner := []) (ok := fun _ => True) (okp := fun _ => True) ?hr ?hp (fun _ hk => hk) trivial (Below.refl _ _) (Nat.le_refl _) (by simp) ?_; (case hd => rfl); (case hg => rfl); (case hr => first | (go_simp; done) | (go_simp; rfl)); (case hp => exact (Reps.none _ _))
      intro v136 w14 ho15 hb hg_ hnew_
      clear hg_ hnew_
      (first | rw [← Ny135.out] at ho15 | (simp only [Int.reduceToNat] at ho15; rw [← Ny135.out] at ho15))
      have n0_ := Aside0.mk (Kd.R_lower (Kd.R_newB ho15 (g := gb133) (o := .cells #[.int .i64 a2_0, .bool a2_1] 63 (0, 0)) (zb24)) (below_size (zb26)))
      have n1_ := Aside0.mk (blk_below (g := gb132) (o := .cells #[.int .i64 a0_0, .slice A0_1 l0_1.length c0_1] 53 (0, 0)) (zb22) hb)
      have n2_ := Aside0.mk (blk_below (g := gb133) (o := .cells #[.int .i64 a2_0, .bool a2_1] 63 (0, 0)) (zb24) hb)
      have n3_ := Aside0.mk (blk_below (g := gb134) (o := .cells #[.int .i64 0, .slice none 0 0] 53 (0, 0)) (zb27) hb)
      have n4_ := Aside0.mk (below_step (zb26) hb)
      clear BK132
      clear BK133
      clear BK134
      clear HB
      have HO137 := n0_
      have BK132 := n1_
      have BK133 := n2_
      have BK134 := n3_
      have HB := n4_
      clear n0_ n1_ n2_ n3_ n4_
      clear hb ho15
      refine hK.out _ _ ⟨(blk_cell BK132.out 0).trans rfl, (blk_cell BK132.out 1).trans rfl⟩ (fun hHeld => ?_)
      clear hK K
      refine norm_ (a' := ?_) ?_ ?_
      rotate_left
      ·show Act.put _ (some 10) _ = _
       simp only [Act.put, List.setIfInBounds_toArray, List.set_cons_zero, List.set_cons_succ, i64_w, i32_w]
       rfl
      refine two_ (i := 5) (j := 7) (Ni := some 13) (Nj := some 7) #[true, true, true, true, true, true, false, false, false] #[true, true, true, true, true, false, false, true, false] rfl rfl rfl rfl (two_of HT_.out (by kernel_rfl)) (by decide) (by decide) (fun K hK => ?_) (fun K hK => ?_)
      ·skip
       refine Kd.R_append_rows_step k63 (w0 := w) w.heap.size (by rfl) (.tmp 10) (.tmp 12) 51 63 (.agg #[(.int .i64 0), (.bool false)]) 16 rfl Try.underlying51 info63 rfl (by decide) (by omega) v136 y135 l0_1 _ _ _ (fun k_ => k_ ≠ gb133) (fun _ => False) rfl rfl ?aO ?aR (fun _ _ h => h) (fun _ h => h.elim) ?aF ?aB ?aS ?aL ?_
       (case aR => exact zb19)
       (case aB => exact (zb26))
       (case aF => exact zb28)
       (case aO => exact zb29)
       (case aS => exact (below_size (zb26)))
       (case aL => have := LMc4.out; omega)
       intro v139 w16 ho hb hg hat
       rw [← Ny138.out] at ho
       have n0_ := Aside0.mk (blk_grown (g := gb132) (o := .cells #[.int .i64 a0_0, .slice A0_1 l0_1.length c0_1] 53 (0, 0)) (zb22) hg (Kd.R_ne HO137.out BK132.out (by decide)))
       have n1_ := Aside0.mk (blk_grown (g := gb133) (o := .cells #[.int .i64 a2_0, .bool a2_1] 63 (0, 0)) (zb24) hg (Kd.R_away HO137.out (fun _ hk => hk.2)))
       have n2_ := Aside0.mk (blk_grown (g := gb134) (o := .cells #[.int .i64 0, .slice none 0 0] 53 (0, 0)) (zb27) hg (Kd.R_ne HO137.out BK134.out (by decide)))
       have n3_ := Aside0.mk (hb)
       have n4_ := Aside0.mk (ho)
       clear BK132
       clear BK133
       clear BK134
       clear HB
       clear HO137
       have BK132 := n0_
       have BK133 := n1_
       have BK134 := n2_
       have HB := n3_
       have HO140 := n4_
       clear n0_ n1_ n2_ n3_ n4_
       clear ho hb hg hat
       obtain ⟨Ao17, co17, eo17⟩ := Kd.R_slice HO140.out
       (first | subst eo17 | (injection eo17 with f1_ f2_ f3_; have f4_ := f1_.symm; have f5_ := f3_.symm; clear f1_ f2_ f3_; subst f4_; subst f5_))
       refine hK.out _ _ ⟨(blk_cell BK132.out 0).trans rfl, (blk_cell BK132.out 1).trans rfl⟩ (fun hHeld => ?_)
       clear hK K
       refine norm_ (a' := ?_) ?_ ?_
       rotate_left
       ·show Act.put _ (some 13) _ = _
        simp only [Act.put, List.setIfInBounds_toArray, List.set_cons_zero, List.set_cons_succ, i64_w, i32_w]
        rfl
       refine pz 6 14 (bz 9 127) rfl rfl ?_
       refine one_ (i := 7) (N := some 7) (bz 9 255) rfl rfl (one_of HT_.out (by kernel_rfl)) (by decide) (fun K hK => ?_)
       refine box_step ?hg (N := 7) ?hd (cs := #[.int .i64 0, .slice none 0 0]) (t := 53) ?hr ?_; (case hd => rfl); (case hg => rfl); (case hr => first | (go_simp; done) | (go_simp; rfl))
       intro gb141 hg w18 hbox hb
       have n0_ := Aside0.mk (Kd.R_below (zb30) hb)
       have n1_ := Aside0.mk (blk_below (g := gb132) (o := .cells #[.int .i64 a0_0, .slice A0_1 l0_1.length c0_1] 53 (0, 0)) (zb22) hb)
       have n2_ := Aside0.mk (blk_below (g := gb133) (o := .cells #[.int .i64 a2_0, .bool a2_1] 63 (0, 0)) (zb24) hb)
       have n3_ := Aside0.mk (blk_below (g := gb134) (o := .cells #[.int .i64 0, .slice none 0 0] 53 (0, 0)) (zb27) hb)
       have n4_ := Aside0.mk (below_step (zb26) hb)
       have n5_ := Aside0.mk (hbox)
       have n6_ := Aside0.mk ((by rw [hg]; exact (below_size (zb26)) : w.heap.size ≤ gb141))
       have n7_ := Aside0.mk ((by rw [hg]; exact (below_size (zb26)) : w.heap.size ≤ gb141))
       have n8_ := Aside0.mk ((by rw [hg]; exact Nat.ne_of_lt (blk_lt (g := gb132) (o := .cells #[.int .i64 a0_0, .slice A0_1 l0_1.length c0_1] 53 (0, 0)) (zb22)) : gb132 ≠ gb141))
       have n9_ := Aside0.mk ((by rw [hg]; exact Nat.ne_of_gt (blk_lt (g := gb132) (o := .cells #[.int .i64 a0_0, .slice A0_1 l0_1.length c0_1] 53 (0, 0)) (zb22)) : gb141 ≠ gb132))
       have n10_ := Aside0.mk ((by rw [hg]; exact Nat.ne_of_lt (blk_lt (g := gb133) (o := .cells #[.int .i64 a2_0, .bool a2_1] 63 (0, 0)) (zb24)) : gb133 ≠ gb141))
       have n11_ := Aside0.mk ((by rw [hg]; exact Nat.ne_of_gt (blk_lt (g := gb133) (o := .cells #[.int .i64 a2_0, .bool a2_1] 63 (0, 0)) (zb24)) : gb141 ≠ gb133))
       have n12_ := Aside0.mk ((by rw [hg]; exact Nat.ne_of_lt (blk_lt (g := gb134) (o := .cells #[.int .i64 0, .slice none 0 0] 53 (0, 0)) (zb27)) : gb134 ≠ gb141))
       have n13_ := Aside0.mk ((by rw [hg]; exact Nat.ne_of_gt (blk_lt (g := gb134) (o := .cells #[.int .i64 0, .slice none 0 0] 53 (0, 0)) (zb27)) : gb141 ≠ gb134))
       clear HO140
       clear BK132
       clear BK133
       clear BK134
       clear HB
       have HO140 := n0_
       have BK132 := n1_
       have BK133 := n2_
       have BK134 := n3_
       have HB := n4_
       have BK141 := n5_
       have GW141 := n6_
       have GE141 := n7_
       have NB132_141 := n8_
       have NB141_132 := n9_
       have NB133_141 := n10_
       have NB141_133 := n11_
       have NB134_141 := n12_
       have NB141_134 := n13_
       clear n0_ n1_ n2_ n3_ n4_ n5_ n6_ n7_ n8_ n9_ n10_ n11_ n12_ n13_
       clear hb hbox hg
       refine hK.out _ _ ⟨(blk_cell BK132.out 0).trans rfl, (blk_cell BK132.out 1).trans rfl⟩ (fun hHeld => ?_)
       clear hK K
       refine norm_ (a' := ?_) ?_ ?_
       rotate_left
       ·show Act.put _ (some 7) _ = _
        simp only [Act.put, List.setIfInBounds_toArray, List.set_cons_zero, List.set_cons_succ, i64_w, i32_w]
        rfl
       exact norm_ (zb31) (hCont (v136, .slice Ao17 y138.length co17, gb141) _ ⟨hHeld, (zb30), (zb22), (zb24), (zb27), (zb32), GW141.out, GE141.out, NB132_141.out, NB141_132.out, NB133_141.out, NB141_133.out, NB134_141.out, NB141_134.out, (zb33)⟩)
      ·skip
       refine box_step ?hg (N := 7) ?hd (cs := #[.int .i64 0, .slice none 0 0]) (t := 53) ?hr ?_; (case hd => rfl); (case hg => rfl); (case hr => first | (go_simp; done) | (go_simp; rfl))
       intro gb141 hg w16 hbox hb
       have n0_ := Aside0.mk (Kd.R_below (by (with_reducible repeat (first | apply Kd.R_alloc | apply Kd.R_drewN | apply Kd.R_drew)); exact HO137.out) hb)
       have n1_ := Aside0.mk (blk_below (g := gb132) (o := .cells #[.int .i64 a0_0, .slice A0_1 l0_1.length c0_1] 53 (0, 0)) (zb22) hb)
       have n2_ := Aside0.mk (blk_below (g := gb133) (o := .cells #[.int .i64 a2_0, .bool a2_1] 63 (0, 0)) (zb24) hb)
       have n3_ := Aside0.mk (blk_below (g := gb134) (o := .cells #[.int .i64 0, .slice none 0 0] 53 (0, 0)) (zb27) hb)
       have n4_ := Aside0.mk (below_step (zb26) hb)
       have n5_ := Aside0.mk (hbox)
       have n6_ := Aside0.mk ((by rw [hg]; exact (below_size (zb26)) : w.heap.size ≤ gb141))
       have n7_ := Aside0.mk ((by rw [hg]; exact (below_size (zb26)) : w.heap.size ≤ gb141))
       have n8_ := Aside0.mk ((by rw [hg]; exact Nat.ne_of_lt (blk_lt (g := gb132) (o := .cells #[.int .i64 a0_0, .slice A0_1 l0_1.length c0_1] 53 (0, 0)) (zb22)) : gb132 ≠ gb141))
       have n9_ := Aside0.mk ((by rw [hg]; exact Nat.ne_of_gt (blk_lt (g := gb132) (o := .cells #[.int .i64 a0_0, .slice A0_1 l0_1.length c0_1] 53 (0, 0)) (zb22)) : gb141 ≠ gb132))
       have n10_ := Aside0.mk ((by rw [hg]; exact Nat.ne_of_lt (blk_lt (g := gb133) (o := .cells #[.int .i64 a2_0, .bool a2_1] 63 (0, 0)) (zb24)) : gb133 ≠ gb141))
       have n11_ := Aside0.mk ((by rw [hg]; exact Nat.ne_of_gt (blk_lt (g := gb133) (o := .cells #[.int .i64 a2_0, .bool a2_1] 63 (0, 0)) (zb24)) : gb141 ≠ gb133))
       have n12_ := Aside0.mk ((by rw [hg]; exact Nat.ne_of_lt (blk_lt (g := gb134) (o := .cells #[.int .i64 0, .slice none 0 0] 53 (0, 0)) (zb27)) : gb134 ≠ gb141))
       have n13_ := Aside0.mk ((by rw [hg]; exact Nat.ne_of_gt (blk_lt (g := gb134) (o := .cells #[.int .i64 0, .slice none 0 0] 53 (0, 0)) (zb27)) : gb141 ≠ gb134))
       clear HO137
       clear BK132
       clear BK133
       clear BK134
       clear HB
       have HO137 := n0_
       have BK132 := n1_
       have BK133 := n2_
       have BK134 := n3_
       have HB := n4_
       have BK141 := n5_
       have GW141 := n6_
       have GE141 := n7_
       have NB132_141 := n8_
       have NB141_132 := n9_
       have NB133_141 := n10_
       have NB141_133 := n11_
       have NB134_141 := n12_
       have NB141_134 := n13_
       clear n0_ n1_ n2_ n3_ n4_ n5_ n6_ n7_ n8_ n9_ n10_ n11_ n12_ n13_
       clear hb hbox hg
       refine hK.out _ _ ⟨(blk_cell BK132.out 0).trans rfl, (blk_cell BK132.out 1).trans rfl⟩ (fun hHeld => ?_)
       clear hK K
       refine norm_ (a' := ?_) ?_ ?_
       rotate_left
       ·show Act.put _ (some 7) _ = _
        simp only [Act.put, List.setIfInBounds_toArray, List.set_cons_zero, List.set_cons_succ, i64_w, i32_w]
        rfl
       refine one_ (i := 5) (N := some 13) (bz 9 191) rfl rfl (one_of HT_.out (by kernel_rfl)) (by decide) (fun K hK => ?_)
       refine Kd.R_append_rows_step k63 (w0 := w) w.heap.size (by rfl) (.tmp 10) (.tmp 12) 51 63 (.agg #[(.int .i64 0), (.bool false)]) 16 rfl Try.underlying51 info63 rfl (by decide) (by omega) v136 y135 l0_1 _ _ _ (fun k_ => k_ ≠ gb133) (fun _ => False) rfl rfl ?aO ?aR (fun _ _ h => h) (fun _ h => h.elim) ?aF ?aB ?aS ?aL ?_
       (case aR => exact zb19)
       (case aB => exact zb34)
       (case aF => exact zb28)
       (case aO => exact zb29)
       (case aS => exact zb35)
       (case aL => have := LMc4.out; omega)
       intro v139 w17 ho hb hg hat
       rw [← Ny138.out] at ho
       have n0_ := Aside0.mk (blk_grown (g := gb132) (o := .cells #[.int .i64 a0_0, .slice A0_1 l0_1.length c0_1] 53 (0, 0)) (zb22) hg (Kd.R_ne HO137.out BK132.out (by decide)))
       have n1_ := Aside0.mk (blk_grown (g := gb133) (o := .cells #[.int .i64 a2_0, .bool a2_1] 63 (0, 0)) (zb24) hg (Kd.R_away HO137.out (fun _ hk => hk.2)))
       have n2_ := Aside0.mk (blk_grown (g := gb134) (o := .cells #[.int .i64 0, .slice none 0 0] 53 (0, 0)) (zb27) hg (Kd.R_ne HO137.out BK134.out (by decide)))
       have n3_ := Aside0.mk (blk_grown (g := gb141) (o := .cells #[.int .i64 0, .slice none 0 0] 53 (0, 0)) (zb32) hg (Kd.R_ne HO137.out BK141.out (by decide)))
       have n4_ := Aside0.mk (hb)
       have n5_ := Aside0.mk (ho)
       clear BK132
       clear BK133
       clear BK134
       clear BK141
       clear HB
       clear HO137
       have BK132 := n0_
       have BK133 := n1_
       have BK134 := n2_
       have BK141 := n3_
       have HB := n4_
       have HO140 := n5_
       clear n0_ n1_ n2_ n3_ n4_ n5_
       clear ho hb hg hat
       obtain ⟨Ao18, co18, eo18⟩ := Kd.R_slice HO140.out
       (first | subst eo18 | (injection eo18 with f1_ f2_ f3_; have f4_ := f1_.symm; have f5_ := f3_.symm; clear f1_ f2_ f3_; subst f4_; subst f5_))
       refine hK.out _ _ ⟨(blk_cell BK132.out 0).trans rfl, (blk_cell BK132.out 1).trans rfl⟩ (fun hHeld => ?_)
       clear hK K
       refine norm_ (a' := ?_) ?_ ?_
       rotate_left
       ·show Act.put _ (some 13) _ = _
        simp only [Act.put, List.setIfInBounds_toArray, List.set_cons_zero, List.set_cons_succ, i64_w, i32_w]
        rfl
       refine pz 6 14 (bz 9 255) rfl rfl ?_
       exact norm_ (zb31) (hCont (v136, .slice Ao18 y138.length co18, gb141) _ ⟨hHeld, (zb30), (zb22), (zb24), (zb27), (zb32), GW141.out, GE141.out, NB132_141.out, NB141_132.out, NB133_141.out, NB141_133.out, NB134_141.out, NB141_134.out, (zb33)⟩)
     ·skip
      refine box_step ?hg (N := 7) ?hd (cs := #[.int .i64 0, .slice none 0 0]) (t := 53) ?hr ?_; (case hd => rfl); (case hg => rfl); (case hr => first | (go_simp; done) | (go_simp; rfl))
      intro gb141 hg w14 hbox hb
      have n0_ := Aside0.mk (blk_below (g := gb132) (o := .cells #[.int .i64 a0_0, .slice A0_1 l0_1.length c0_1] 53 (0, 0)) (zb22) hb)
      have n1_ := Aside0.mk (blk_below (g := gb133) (o := .cells #[.int .i64 a2_0, .bool a2_1] 63 (0, 0)) (zb24) hb)
      have n2_ := Aside0.mk (blk_below (g := gb134) (o := .cells #[.int .i64 0, .slice none 0 0] 53 (0, 0)) (zb27) hb)
      have n3_ := Aside0.mk (below_step (zb26) hb)
      have n4_ := Aside0.mk (hbox)
      have n5_ := Aside0.mk ((by rw [hg]; exact (below_size (zb26)) : w.heap.size ≤ gb141))
      have n6_ := Aside0.mk ((by rw [hg]; exact (below_size (zb26)) : w.heap.size ≤ gb141))
      have n7_ := Aside0.mk ((by rw [hg]; exact Nat.ne_of_lt (blk_lt (g := gb132) (o := .cells #[.int .i64 a0_0, .slice A0_1 l0_1.length c0_1] 53 (0, 0)) (zb22)) : gb132 ≠ gb141))
      have n8_ := Aside0.mk ((by rw [hg]; exact Nat.ne_of_gt (blk_lt (g := gb132) (o := .cells #[.int .i64 a0_0, .slice A0_1 l0_1.length c0_1] 53 (0, 0)) (zb22)) : gb141 ≠ gb132))
      have n9_ := Aside0.mk ((by rw [hg]; exact Nat.ne_of_lt (blk_lt (g := gb133) (o := .cells #[.int .i64 a2_0, .bool a2_1] 63 (0, 0)) (zb24)) : gb133 ≠ gb141))
      have n10_ := Aside0.mk ((by rw [hg]; exact Nat.ne_of_gt (blk_lt (g := gb133) (o := .cells #[.int .i64 a2_0, .bool a2_1] 63 (0, 0)) (zb24)) : gb141 ≠ gb133))
      have n11_ := Aside0.mk ((by rw [hg]; exact Nat.ne_of_lt (blk_lt (g := gb134) (o := .cells #[.int .i64 0, .slice none 0 0] 53 (0, 0)) (zb27)) : gb134 ≠ gb141))
      have n12_ := Aside0.mk ((by rw [hg]; exact Nat.ne_of_gt (blk_lt (g := gb134) (o := .cells #[.int .i64 0, .slice none 0 0] 53 (0, 0)) (zb27)) : gb141 ≠ gb134))
      clear BK132
      clear BK133
      clear BK134
      clear HB
      have BK132 := n0_
      have BK133 := n1_
      have BK134 := n2_
      have HB := n3_
      have BK141 := n4_
      have GW141 := n5_
      have GE141 := n6_
      have NB132_141 := n7_
      have NB141_132 := n8_
      have NB133_141 := n9_
      have NB141_133 := n10_
      have NB134_141 := n11_
      have NB141_134 := n12_
      clear n0_ n1_ n2_ n3_ n4_ n5_ n6_ n7_ n8_ n9_ n10_ n11_ n12_
      clear hb hbox hg
      refine hK.out _ _ ⟨(blk_cell BK132.out 0).trans rfl, (blk_cell BK132.out 1).trans rfl⟩ (fun hHeld => ?_)
      clear hK K
      refine norm_ (a' := ?_) ?_ ?_
      rotate_left
      ·show Act.put _ (some 7) _ = _
       simp only [Act.put, List.setIfInBounds_toArray, List.set_cons_zero, List.set_cons_succ, i64_w, i32_w]
       rfl
      refine one_ (i := 2) (N := some 10) (bz 9 159) rfl rfl (one_of HT_.out (by kernel_rfl)) (by decide) (fun K hK => ?_)
      refine Kd.R_lit_step k63 _ 63 ?hg (N := 10) ?hd (xs := ([] : List (S63))) (inner := []) (ok := fun _ => True) (okp := fun _ => True) ?hr ?hp (fun _ hk => hk) trivial (Below.refl _ _) (Nat.le_refl _) (by simp) ?_; (case hd => rfl); (case hg => rfl); (case hr => first | (go_simp; done) | (go_simp; rfl)); (case hp => exact (Reps.none _ _))
      intro v136 w15 ho16 hb hg_ hnew_
      clear hg_ hnew_
      (first | rw [← Ny135.out] at ho16 | (simp only [Int.reduceToNat] at ho16; rw [← Ny135.out] at ho16))
      have n0_ := Aside0.mk (Kd.R_lower (Kd.R_newB ho16 (g := gb133) (o := .cells #[.int .i64 a2_0, .bool a2_1] 63 (0, 0)) (zb24)) (below_size (zb33)))
      have n1_ := Aside0.mk (blk_below (g := gb132) (o := .cells #[.int .i64 a0_0, .slice A0_1 l0_1.length c0_1] 53 (0, 0)) (zb22) hb)
      have n2_ := Aside0.mk (blk_below (g := gb133) (o := .cells #[.int .i64 a2_0, .bool a2_1] 63 (0, 0)) (zb24) hb)
      have n3_ := Aside0.mk (blk_below (g := gb134) (o := .cells #[.int .i64 0, .slice none 0 0] 53 (0, 0)) (zb27) hb)
      have n4_ := Aside0.mk (blk_below (g := gb141) (o := .cells #[.int .i64 0, .slice none 0 0] 53 (0, 0)) (zb32) hb)
      have n5_ := Aside0.mk (below_step (zb33) hb)
      clear BK132
      clear BK133
      clear BK134
      clear BK141
      clear HB
      have HO137 := n0_
      have BK132 := n1_
      have BK133 := n2_
      have BK134 := n3_
      have BK141 := n4_
      have HB := n5_
      clear n0_ n1_ n2_ n3_ n4_ n5_
      clear hb ho16
      refine hK.out _ _ ⟨(blk_cell BK132.out 0).trans rfl, (blk_cell BK132.out 1).trans rfl⟩ (fun hHeld => ?_)
      clear hK K
      refine norm_ (a' := ?_) ?_ ?_
      rotate_left
      ·show Act.put _ (some 10) _ = _
       simp only [Act.put, List.setIfInBounds_toArray, List.set_cons_zero, List.set_cons_succ, i64_w, i32_w]
       rfl
      refine one_ (i := 5) (N := some 13) (bz 9 191) rfl rfl (one_of HT_.out (by kernel_rfl)) (by decide) (fun K hK => ?_)
      refine Kd.R_append_rows_step k63 (w0 := w) w.heap.size (by rfl) (.tmp 10) (.tmp 12) 51 63 (.agg #[(.int .i64 0), (.bool false)]) 16 rfl Try.underlying51 info63 rfl (by decide) (by omega) v136 y135 l0_1 _ _ _ (fun k_ => k_ ≠ gb133) (fun _ => False) rfl rfl ?aO ?aR (fun _ _ h => h) (fun _ h => h.elim) ?aF ?aB ?aS ?aL ?_
      (case aR => exact zb19)
      (case aB => exact zb34)
      (case aF => exact zb28)
      (case aO => exact zb29)
      (case aS => exact zb35)
      (case aL => have := LMc4.out; omega)
      intro v139 w17 ho hb hg hat
      rw [← Ny138.out] at ho
      have n0_ := Aside0.mk (blk_grown (g := gb132) (o := .cells #[.int .i64 a0_0, .slice A0_1 l0_1.length c0_1] 53 (0, 0)) (zb22) hg (Kd.R_ne HO137.out BK132.out (by decide)))
      have n1_ := Aside0.mk (blk_grown (g := gb133) (o := .cells #[.int .i64 a2_0, .bool a2_1] 63 (0, 0)) (zb24) hg (Kd.R_away HO137.out (fun _ hk => hk.2)))
      have n2_ := Aside0.mk (blk_grown (g := gb134) (o := .cells #[.int .i64 0, .slice none 0 0] 53 (0, 0)) (zb27) hg (Kd.R_ne HO137.out BK134.out (by decide)))
      have n3_ := Aside0.mk (blk_grown (g := gb141) (o := .cells #[.int .i64 0, .slice none 0 0] 53 (0, 0)) (zb32) hg (Kd.R_ne HO137.out BK141.out (by decide)))
      have n4_ := Aside0.mk (hb)
      have n5_ := Aside0.mk (ho)
      clear BK132
      clear BK133
      clear BK134
      clear BK141
      clear HB
      clear HO137
      have BK132 := n0_
      have BK133 := n1_
      have BK134 := n2_
      have BK141 := n3_
      have HB := n4_
      have HO140 := n5_
      clear n0_ n1_ n2_ n3_ n4_ n5_
      clear ho hb hg hat
      obtain ⟨Ao18, co18, eo18⟩ := Kd.R_slice HO140.out
      (first | subst eo18 | (injection eo18 with f1_ f2_ f3_; have f4_ := f1_.symm; have f5_ := f3_.symm; clear f1_ f2_ f3_; subst f4_; subst f5_))
      refine hK.out _ _ ⟨(blk_cell BK132.out 0).trans rfl, (blk_cell BK132.out 1).trans rfl⟩ (fun hHeld => ?_)
      clear hK K
      refine norm_ (a' := ?_) ?_ ?_
      rotate_left
      ·show Act.put _ (some 13) _ = _
       simp only [Act.put, List.setIfInBounds_toArray, List.set_cons_zero, List.set_cons_succ, i64_w, i32_w]
       rfl
      refine pz 6 14 (bz 9 255) rfl rfl ?_
      exact norm_ (zb31) (hCont (v136, .slice Ao18 y138.length co18, gb141) _ ⟨hHeld, (zb30), (zb22), (zb24), (zb27), (zb32), GW141.out, GE141.out, NB132_141.out, NB141_132.out, NB133_141.out, NB141_133.out, NB134_141.out, NB141_134.out, (zb33)⟩)
    rintro ⟨v136, v139, gb141⟩ w19 ⟨hS_, h0_, h1_, h2_, h3_, h4_, h5_, h6_, h7_, h8_, h9_, h10_, h11_, h12_, h13_⟩
    have n0_ : Aside0 (Kd.R k63 63 w19 w.heap.size (fun k_ => k_ ≠ gb133) v139 y138) := ⟨h0_⟩
    have n1_ : Aside0 (w19.heap[gb132]? = some (.cells #[.int .i64 a0_0, .slice A0_1 l0_1.length c0_1] 53 (0, 0))) := ⟨h1_⟩
    have n2_ : Aside0 (w19.heap[gb133]? = some (.cells #[.int .i64 a2_0, .bool a2_1] 63 (0, 0))) := ⟨h2_⟩
    have n3_ : Aside0 (w19.heap[gb134]? = some (.cells #[.int .i64 0, .slice none 0 0] 53 (0, 0))) := ⟨h3_⟩
    have n4_ : Aside0 (w19.heap[gb141]? = some (.cells #[.int .i64 0, .slice none 0 0] 53 (0, 0))) := ⟨h4_⟩
    have n5_ : Aside0 (w.heap.size ≤ gb141) := ⟨h5_⟩
    have n6_ : Aside0 (w.heap.size ≤ gb141) := ⟨h6_⟩
    have n7_ : Aside0 (gb132 ≠ gb141) := ⟨h7_⟩
    have n8_ : Aside0 (gb141 ≠ gb132) := ⟨h8_⟩
    have n9_ : Aside0 (gb133 ≠ gb141) := ⟨h9_⟩
    have n10_ : Aside0 (gb141 ≠ gb133) := ⟨h10_⟩
    have n11_ : Aside0 (gb134 ≠ gb141) := ⟨h11_⟩
    have n12_ : Aside0 (gb141 ≠ gb134) := ⟨h12_⟩
    have n13_ : Aside0 (Below w.heap.size w w19) := ⟨h13_⟩
    clear BK132
    clear BK133
    clear BK134
    clear HB
    clear h0_ h1_ h2_ h3_ h4_ h5_ h6_ h7_ h8_ h9_ h10_ h11_ h12_ h13_
    have HO140 := n0_
    have BK132 := n1_
    have BK133 := n2_
    have BK134 := n3_
    have BK141 := n4_
    have GW141 := n5_
    have GE141 := n6_
    have NB132_141 := n7_
    have NB141_132 := n8_
    have NB133_141 := n9_
    have NB141_133 := n10_
    have NB134_141 := n11_
    have NB141_134 := n12_
    have HB := n13_
    clear n0_ n1_ n2_ n3_ n4_ n5_ n6_ n7_ n8_ n9_ n10_ n11_ n12_ n13_
    have hHeld : w19.cell? ⟨gb132, 0, none⟩ = some (.int .i64 a0_0) ∧ w19.cell? ⟨gb132, 1, none⟩ = some (.slice A0_1 l0_1.length c0_1) := hS_
    obtain ⟨Ao20, co20, eo20⟩ := Kd.R_slice HO140.out
    (first | subst eo20 | (injection eo20 with f1_ f2_ f3_; have f4_ := f1_.symm; have f5_ := f3_.symm; clear f1_ f2_ f3_; subst f4_; subst f5_))
    refine norm_ (a' := ?_) ?_ ?_
    rotate_left
    ·simp only [putAll, Act.put, List.setIfInBounds_toArray, List.set_cons_zero, List.set_cons_succ]
     rfl
    refine one_ (i := 8) (N := none) (bz 9 511) rfl rfl (one_of HT_.out (by kernel_rfl)) (by decide) (fun K hK => ?_)
    have hs21 : w19.cell? ⟨gb141, 0, none⟩ = some (.int .i64 0) := (blk_cell BK141.out 0).trans rfl
    have hfs21 := blk_frozen BK141.out 0
    have hns21_0 := NB132_141.out
    have hns21_1 := NB133_141.out
    have hns21_2 := NB134_141.out
    have hms21_0 := NB141_132.out
    have hms21_1 := NB141_133.out
    have hms21_2 := NB141_134.out
    have hs22 : w19.cell? ⟨gb141, 1, none⟩ = some (.slice none 0 0) := (blk_cell BK141.out 1).trans rfl
    have hfs22 := blk_frozen BK141.out 1
    have hns22_0 := NB132_141.out
    have hns22_1 := NB133_141.out
    have hns22_2 := NB134_141.out
    have hms22_0 := NB141_132.out
    have hms22_1 := NB141_133.out
    have hms22_2 := NB141_134.out
    refine skip_ (w1 := ?_) (by rfl) rfl ?_ ?_
    rotate_left
    ·go_simp
     rfl
    refine hK.out _ _ ⟨((cell_far (p := ⟨gb141, _, none⟩) NB132_141.out _).trans (((cell_far (p := ⟨gb141, _, none⟩) NB132_141.out _).trans (hHeld.1)))), ((cell_far (p := ⟨gb141, _, none⟩) NB132_141.out _).trans (((cell_far (p := ⟨gb141, _, none⟩) NB132_141.out _).trans (hHeld.2))))⟩ (fun hHeld => ?_)
    clear hK K
    refine done_ (done_of HT_.out (by kernel_rfl)) ?_
    have n0_ : Aside0 (Kd.R k63 63 ((w19.setCell ⟨gb141, 0, none⟩ (.int .i64 a0_0)).setCell ⟨gb141, 1, none⟩ (.slice Ao20 y138.length co20)) w.heap.size (fun k_ => k_ ≠ gb133) (.slice Ao20 y138.length co20) y138) := ⟨by (with_reducible repeat (first | apply Kd.R_alloc | apply Kd.R_drewN | apply Kd.R_drew)); exact Kd.R_mono (Kd.R_far (p := ⟨gb141, 1, none⟩) (Kd.R_far (p := ⟨gb141, 0, none⟩) (Kd.R_types HO140.out BK141.out (by decide)) (fun _ hk => hk.2) (.int .i64 a0_0)) (fun _ hk => hk.2) (.slice Ao20 y138.length co20)) (fun _ hk => hk.1)⟩
    have n1_ : Aside0 (((w19.setCell ⟨gb141, 0, none⟩ (.int .i64 a0_0)).setCell ⟨gb141, 1, none⟩ (.slice Ao20 y138.length co20)).heap[gb132]? = some (.cells #[.int .i64 a0_0, .slice A0_1 l0_1.length c0_1] 53 (0, 0))) := ⟨by (with_reducible repeat (first | refine blk_drewN ?_ _ | refine blk_drew ?_ | refine blk_alloc ?_ _)); refine blk_far ?_ NB132_141.out _; (with_reducible repeat (first | refine blk_drewN ?_ _ | refine blk_drew ?_ | refine blk_alloc ?_ _)); refine blk_far ?_ NB132_141.out _; (with_reducible repeat (first | refine blk_drewN ?_ _ | refine blk_drew ?_ | refine blk_alloc ?_ _)); exact BK132.out⟩
    have n2_ : Aside0 (((w19.setCell ⟨gb141, 0, none⟩ (.int .i64 a0_0)).setCell ⟨gb141, 1, none⟩ (.slice Ao20 y138.length co20)).heap[gb133]? = some (.cells #[.int .i64 a2_0, .bool a2_1] 63 (0, 0))) := ⟨by (with_reducible repeat (first | refine blk_drewN ?_ _ | refine blk_drew ?_ | refine blk_alloc ?_ _)); refine blk_far ?_ NB133_141.out _; (with_reducible repeat (first | refine blk_drewN ?_ _ | refine blk_drew ?_ | refine blk_alloc ?_ _)); refine blk_far ?_ NB133_141.out _; (with_reducible repeat (first | refine blk_drewN ?_ _ | refine blk_drew ?_ | refine blk_alloc ?_ _)); exact BK133.out⟩
    have n3_ : Aside0 (((w19.setCell ⟨gb141, 0, none⟩ (.int .i64 a0_0)).setCell ⟨gb141, 1, none⟩ (.slice Ao20 y138.length co20)).heap[gb134]? = some (.cells #[.int .i64 0, .slice none 0 0] 53 (0, 0))) := ⟨by (with_reducible repeat (first | refine blk_drewN ?_ _ | refine blk_drew ?_ | refine blk_alloc ?_ _)); refine blk_far ?_ NB134_141.out _; (with_reducible repeat (first | refine blk_drewN ?_ _ | refine blk_drew ?_ | refine blk_alloc ?_ _)); refine blk_far ?_ NB134_141.out _; (with_reducible repeat (first | refine blk_drewN ?_ _ | refine blk_drew ?_ | refine blk_alloc ?_ _)); exact BK134.out⟩
    have n4_ : Aside0 (((w19.setCell ⟨gb141, 0, none⟩ (.int .i64 a0_0)).setCell ⟨gb141, 1, none⟩ (.slice Ao20 y138.length co20)).heap[gb141]? = some (.cells #[.int .i64 a0_0, .slice Ao20 y138.length co20] 53 (0, 0))) := ⟨by (with_reducible repeat (first | refine blk_drewN ?_ _ | refine blk_drew ?_ | refine blk_alloc ?_ _)); refine blk_put (cs := #[.int .i64 a0_0, .slice none 0 0]) ?_ 1 _ rfl; (with_reducible repeat (first | refine blk_drewN ?_ _ | refine blk_drew ?_ | refine blk_alloc ?_ _)); refine blk_put (cs := #[.int .i64 0, .slice none 0 0]) ?_ 0 _ rfl; (with_reducible repeat (first | refine blk_drewN ?_ _ | refine blk_drew ?_ | refine blk_alloc ?_ _)); exact BK141.out⟩
    have n5_ : Aside0 (Below w.heap.size w ((w19.setCell ⟨gb141, 0, none⟩ (.int .i64 a0_0)).setCell ⟨gb141, 1, none⟩ (.slice Ao20 y138.length co20))) := ⟨zb33⟩
    (try clear HO140)
    (try clear BK132)
    (try clear BK133)
    (try clear BK134)
    (try clear BK141)
    (try clear HB)
    generalize ((w19.setCell ⟨gb141, 0, none⟩ (.int .i64 a0_0)).setCell ⟨gb141, 1, none⟩ (.slice Ao20 y138.length co20)) = w23 at n0_ n1_ n2_ n3_ n4_ n5_ ⊢
    have HO140 := n0_
    have BK132 := n1_
    have BK133 := n2_
    have BK134 := n3_
    have BK141 := n4_
    have HB := n5_
    clear n0_ n1_ n2_ n3_ n4_ n5_
    have hnb24 := NB141_132.out
    have hnc24 := NB132_141.out
    have hnb25 := NB141_133.out
    have hnc25 := NB133_141.out
    have hnb26 := NB141_134.out
    have hnc26 := NB134_141.out
    have hcz27_0 : w23.cell? ⟨gb141, 0, none⟩ = some (.int .i64 a0_0) := (blk_cell BK141.out 0).trans rfl
    have hcz27_1 : w23.cell? ⟨gb141, 1, none⟩ = some (.slice Ao20 y138.length co20) := (blk_cell BK141.out 1).trans rfl
    have hfz27_0 := blk_frozen BK141.out 0
    have hfz27_1 := blk_frozen BK141.out 1
    have hnb28 := NB133_132.out
    have hnc28 := NB132_133.out
    have hnb29 := NB133_134.out
    have hnc29 := NB134_133.out
    have hcz30_0 : w23.cell? ⟨gb133, 0, none⟩ = some (.int .i64 a2_0) := (blk_cell BK133.out 0).trans rfl
    have hcz30_1 : w23.cell? ⟨gb133, 1, none⟩ = some (.bool a2_1) := (blk_cell BK133.out 1).trans rfl
    have hfz30_0 := blk_frozen BK133.out 0
    have hfz30_1 := blk_frozen BK133.out 1
    have p7 : 0 ≤ (a1 : Int) := of_decide_eq_true (zb9)
    have q7 : (a1 : Int) < ((y138.length : Int) : Int) := of_decide_eq_true (zb9)
    obtain ⟨go7, co7, eo7, gb7, gl7, cl7, HG7⟩ := Kd.R_form HO140.out (by omega)
    (first | cases eo7 | (injection eo7 with ea_ en_ ec_; (first | subst ea_ | (injection ea_ with ea_; subst ea_)); subst ec_; clear en_))
    have GB7 := Aside0.mk gb7
    have GG7 := Aside0.mk HG7
    clear gb7 gl7 HG7
    obtain ⟨ce7, hcl7, hM7, hcc7, hfr7⟩ := Kd.R_elem HO140.out z63 (a1 : Int) p7 q7
    obtain rfl := k63_openM hM7
    have hx7_0 : w23.cell? ⟨go7, (a1 : Int).toNat * 2, none⟩ = some (.int .i64 ((rd_T63 y138 a1).f0)) := hcc7 0 _ rfl
    have hx7_1 : w23.cell? ⟨go7, (a1 : Int).toNat * 2 + 1, none⟩ = some (.bool ((rd_T63 y138 a1).f1)) := hcc7 1 _ rfl
    have hf7_0 : w23.frozen? ⟨go7, (a1 : Int).toNat * 2, none⟩ = false := hfr7 0
    have hf7_1 : w23.frozen? ⟨go7, (a1 : Int).toNat * 2 + 1, none⟩ = false := hfr7 1
    clear hcl7 hcc7 hfr7 hM7
    replace p7 := eq_true p7
    replace q7 := eq_true q7
    have HX31 := Aside0.mk (show Kd.R k63 63 w23 w.heap.size (fun k_ => k_ ≠ gb133) (.slice (some ⟨go7, 0, none⟩) y138.length co20) y138 from (zb30))
    obtain ⟨ce31, hcl31, hM31, hcc31, hfr31⟩ := Kd.R_elem HX31.out z63 (a1 : Int) (of_decide_eq_true (zb9)) (by have h_ : (a1 : Int) < ((y138.length : Int) : Int) := of_decide_eq_true (zb9); first | exact h_ | (have e_ := (Kd.R_reads' HO140.out).1; omega) | simpa using h_)
    obtain rfl := k63_openM hM31
    have HP31 := Kd.R_seg HX31.out (a1 : Int) (of_decide_eq_true (zb9)) (by have h_ : (a1 : Int) < ((y138.length : Int) : Int) := of_decide_eq_true (zb9); first | exact h_ | (have e_ := (Kd.R_reads' HO140.out).1; omega) | simpa using h_) (seg := [.int .i64 a2_0, .bool a2_1]) (j := 0) hcl31 hcc31 (show 2 ≤ 2 from by decide) (x' := (⟨a2_0, a2_1⟩ : S63)) (k63_mkM _ _ _ (⟨a2_0, a2_1⟩ : S63) ) (fun _ hk => hk)
    have hx31_0 := hcc31 0 _ rfl
    (try simp only [show (k63).sz = 2 from rfl, Nat.mul_one, Nat.add_zero] at hx31_0)
    have hf31_0 := hfr31 0
    (try simp only [show (k63).sz = 2 from rfl, Nat.mul_one, Nat.add_zero] at hf31_0)
    have hx31_1 := hcc31 1 _ rfl
    (try simp only [show (k63).sz = 2 from rfl, Nat.mul_one, Nat.add_zero] at hx31_1)
    have hf31_1 := hfr31 1
    (try simp only [show (k63).sz = 2 from rfl, Nat.mul_one, Nat.add_zero] at hf31_1)
    clear hcl31 hcc31 hfr31 hM31
    try go_wp2_with (first | ((with_reducible refine gate_store (t := 63) (p := 19) rfl ?_); refine store_event (t := 63) (p := 19) (v := ?vo_w32) (w1 := ((w23.setCell ⟨go7, (a1 : Int).toNat * 2, none⟩ (.int .i64 a2_0)).setCell ⟨go7, (a1 : Int).toNat * 2 + 1, none⟩ (.bool a2_1))) ?hg ?ho ?hn ?hr ?_; (case ho => rfl); (case hg => rfl); (case hn => rfl); (case hr => first | (go_simp; done) | (go_simp; rfl)); intro w32 hw; have hg : w23.grownBy w32 (some go7) := (by rw [hw]; exact HP31.2); have hp_ : Kd.R k63 63 w32 w.heap.size (fun k_ => k_ ≠ gb133) (.slice (some ⟨go7, 0, none⟩) y138.length co20) y142 := (by rw [hw, Ny142.out]; exact HP31.1); clear HP31; have n0_ := Aside0.mk (blk_grown (g := gb132) (o := .cells #[.int .i64 a0_0, .slice A0_1 l0_1.length c0_1] 53 (0, 0)) (zb22) hg (Kd.R_ne HO140.out BK132.out (by decide))); have n1_ := Aside0.mk (blk_grown (g := gb133) (o := .cells #[.int .i64 a2_0, .bool a2_1] 63 (0, 0)) (zb24) hg (Kd.R_away HO140.out (fun _ hk => hk))); have n2_ := Aside0.mk (blk_grown (g := gb134) (o := .cells #[.int .i64 0, .slice none 0 0] 53 (0, 0)) (zb27) hg (Kd.R_ne HO140.out BK134.out (by decide))); have n3_ := Aside0.mk (hp_); have n4_ := Aside0.mk (blk_grown (g := gb141) (o := .cells #[.int .i64 a0_0, .slice (some ⟨go7, 0, none⟩) y138.length co20] 53 (0, 0)) (zb32) hg (Kd.R_ne HO140.out BK141.out (by decide))); have n5_ := Aside0.mk ((by rw [hw]; exact below_set (below_set (HB.out) GB7.out) GB7.out : Below w.heap.size w w32)); clear BK132; clear BK133; clear BK134; clear HO140; clear BK141; clear HB; have BK132 := n0_; have BK133 := n1_; have BK134 := n2_; have HO140 := n3_; have BK141 := n4_; have HB := n5_; clear n0_ n1_ n2_ n3_ n4_ n5_; clear hg hw hp_))
    have n0_ := Aside0.mk (Kd.R_drew HO140.out)
    have n1_ := Aside0.mk (blk_drew BK132.out)
    have n2_ := Aside0.mk (blk_drew BK133.out)
    have n3_ := Aside0.mk (blk_drew BK134.out)
    have n4_ := Aside0.mk (blk_drew BK141.out)
    have n5_ := Aside0.mk (below_drew1 HB.out)
    clear HO140
    clear BK132
    clear BK133
    clear BK134
    clear BK141
    clear HB
    have HO140 := n0_
    have BK132 := n1_
    have BK133 := n2_
    have BK134 := n3_
    have BK141 := n4_
    have HB := n5_
    clear n0_ n1_ n2_ n3_ n4_ n5_
    refine start_ (n := 7) (S := fun w' => w'.cell? ⟨gb141, 0, none⟩ = some (.int .i64 a0_0) ∧ w'.cell? ⟨gb141, 1, none⟩ = some (.slice (some ⟨go7, 0, none⟩) y138.length co20)) (ds := [6]) #[false, false, false, false, false, false, false] (by kernel_rfl) rfl rfl ⟨(blk_cell BK141.out 0).trans rfl, (blk_cell BK141.out 1).trans rfl⟩ (fun hHeld => ?_)
    generalize w32.drew = w33 at HO140 BK132 BK133 BK134 BK141 HB hHeld ⊢
    refine pure_ (i := 0) (N := some 20) (v := ?_) (a' := ?_) #[true, false, false, false, false, false, false] rfl rfl (by kernel_rfl) (fun _ _ _ h => h) (Or.inl ⟨by rfl, ?_⟩) ?_ ?_
    rotate_left
    ·intro w'
     go_simp
     with_reducible rfl
    rotate_left
    ·simp only [Act.put, List.setIfInBounds_toArray, List.set_cons_zero, List.set_cons_succ, i64_w, i32_w]
     rfl
    refine take_ (i := 1) (N := some 21) (v := ?_) (a' := ?_) #[true, true, false, false, false, false, false] rfl rfl (by kernel_rfl) (fun _ _ _ h => h) (Or.inl ⟨by rfl, ?_⟩) hHeld ?_ ?_
    rotate_left
    ·rintro w' ⟨s0, s1⟩
     go_simp
     with_reducible rfl
    rotate_left
    ·simp only [Act.put, List.setIfInBounds_toArray, List.set_cons_zero, List.set_cons_succ, i64_w, i32_w]
     rfl
    refine take_ (i := 2) (N := some 22) (v := ?_) (a' := ?_) #[true, true, true, false, false, false, false] rfl rfl (by kernel_rfl) (fun _ _ _ h => h) (Or.inl ⟨by rfl, ?_⟩) hHeld ?_ ?_
    rotate_left
    ·rintro w' ⟨s0, s1⟩
     go_simp
     with_reducible rfl
    rotate_left
    ·simp only [Act.put, List.setIfInBounds_toArray, List.set_cons_zero, List.set_cons_succ, i64_w, i32_w]
     rfl
    refine one_ (i := 3) (N := some 23) #[true, true, true, true, false, false, false] rfl rfl (by kernel_rfl) (by decide) (fun K hK => ?_)
    refine goes_ Try.func68 (by kernel_rfl) rfl #[.agg #[.int .i64 a0_0, .slice (some ⟨go7, 0, none⟩) y142.length co20]] (by rfl) rfl rfl (by (try simp only [List.map_toArray, List.map_cons, List.map_nil]); first | done | (rw [show y142.length = y138.length from (Kd.R_reads' HO140.out).1.symm] <;> rfl) | rfl | (simp only [List.length_drop, List.length_take]; rfl)) ?_
    with_reducible refine (spec_MarksLeast.calls k a0_0 _ _ y142 t143 _ ?side1 ?side2 A8.out).mono ?_
    (case side1 => repeat (first | exact (Kd.R_reads' HO140.out).2.2 | (with_reducible refine Kd.C_alloc ?_ _) | (with_reducible refine Kd.C_drewN ?_ _) | (with_reducible refine Kd.C_drew ?_)))
    (case side2 => rw [show y142.length = y138.length from (Kd.R_reads' HO140.out).1.symm]; exact (Kd.R_reads' HO140.out).2.1)
    rintro e w34 ⟨rfl, hb⟩
    refine ⟨_, rfl, ?_⟩
    have n0_ := Aside0.mk (Kd.R_below (zb30) hb)
    have n1_ := Aside0.mk (blk_below (g := gb132) (o := .cells #[.int .i64 a0_0, .slice A0_1 l0_1.length c0_1] 53 (0, 0)) (zb22) hb)
    have n2_ := Aside0.mk (blk_below (g := gb133) (o := .cells #[.int .i64 a2_0, .bool a2_1] 63 (0, 0)) (zb24) hb)
    have n3_ := Aside0.mk (blk_below (g := gb134) (o := .cells #[.int .i64 0, .slice none 0 0] 53 (0, 0)) (zb27) hb)
    have n4_ := Aside0.mk (blk_below (g := gb141) (o := .cells #[.int .i64 a0_0, .slice (some ⟨go7, 0, none⟩) y138.length co20] 53 (0, 0)) (zb32) hb)
    have n5_ := Aside0.mk (below_step (zb33) hb)
    clear HO140
    clear BK132
    clear BK133
    clear BK134
    clear BK141
    clear HB
    have HO140 := n0_
    have BK132 := n1_
    have BK133 := n2_
    have BK134 := n3_
    have BK141 := n4_
    have HB := n5_
    clear n0_ n1_ n2_ n3_ n4_ n5_
    (try clear hb)
    (try clear hb2)
    (try clear hk)
    (try clear hi)
    refine hK.out _ _ ⟨(blk_cell BK141.out 0).trans rfl, (blk_cell BK141.out 1).trans rfl⟩ (fun hHeld => ?_)
    clear hK K
    refine norm_ (a' := ?_) ?_ ?_
    rotate_left
    ·show Act.put _ (some 23) _ = _
     simp only [Act.put, List.setIfInBounds_toArray, List.set_cons_zero, List.set_cons_succ, i64_w, i32_w]
     rfl
    refine pure_ (i := 4) (N := some 24) (v := ?_) (a' := ?_) #[true, true, true, true, true, false, false] rfl rfl (by kernel_rfl) (fun _ _ _ h => h) (Or.inl ⟨by rfl, ?_⟩) ?_ ?_
    rotate_left
    ·intro w'
     go_simp
     with_reducible rfl
    rotate_left
    ·simp only [Act.put, List.setIfInBounds_toArray, List.set_cons_zero, List.set_cons_succ, i64_w, i32_w]
     rfl
    refine pure_ (i := 5) (N := some 25) (v := ?_) (a' := ?_) #[true, true, true, true, true, true, false] rfl rfl (by kernel_rfl) (fun _ _ _ h => h) (Or.inl ⟨by rfl, ?_⟩) ?_ ?_
    rotate_left
    ·intro w'
     go_simp
     with_reducible rfl
    rotate_left
    ·simp only [Act.put, List.setIfInBounds_toArray, List.set_cons_zero, List.set_cons_succ, i64_w, i32_w]
     rfl
    refine last_ (i := 6) (N := none) #[true, true, true, true, true, true, true] rfl rfl (by kernel_rfl) (by decide) (fun K hK => ?_)
    have hs35 : w34.cell? ⟨gb141, 0, none⟩ = some (.int .i64 a0_0) := (blk_cell BK141.out 0).trans rfl
    have hfs35 := blk_frozen BK141.out 0
    have hns35_0 := NB132_141.out
    have hns35_1 := NB133_141.out
    have hns35_2 := NB134_141.out
    have hms35_0 := NB141_132.out
    have hms35_1 := NB141_133.out
    have hms35_2 := NB141_134.out
    refine skip_ (w1 := ?_) (by rfl) rfl ?_ ?_
    rotate_left
    ·go_simp
     rfl
    refine hK.out _ _ ?_
    clear hK K
    refine done_ (by kernel_rfl) ?_
    have hcz36_0 : w34.cell? ⟨gb141, 0, none⟩ = some (.int .i64 a0_0) := (blk_cell BK141.out 0).trans rfl
    have hcz36_1 : w34.cell? ⟨gb141, 1, none⟩ = some (.slice (some ⟨go7, 0, none⟩) y138.length co20) := (blk_cell BK141.out 1).trans rfl
    have hfz36_0 := blk_frozen BK141.out 0
    have hfz36_1 := blk_frozen BK141.out 1
    have hnb37 := NB134_132.out
    have hnc37 := NB132_134.out
    have hcz38_0 : w34.cell? ⟨gb134, 0, none⟩ = some (.int .i64 0) := (blk_cell BK134.out 0).trans rfl
    have hcz38_1 : w34.cell? ⟨gb134, 1, none⟩ = some (.slice none 0 0) := (blk_cell BK134.out 1).trans rfl
    have hfz38_0 := blk_frozen BK134.out 0
    have hfz38_1 := blk_frozen BK134.out 1
    try go_wp2
    refine bodyPost_ret (results_cell_row rfl _ _ gb134 53 #[.int .i64 ji9, .slice (some ⟨go7, 0, none⟩) y138.length co20] (0, 0) _ rfl (by (with_reducible repeat (first | refine blk_drewN ?_ _ | refine blk_drew ?_ | refine blk_alloc ?_ _)); refine blk_put (cs := #[.int .i64 ji9, .slice none 0 0]) ?_ 1 _ rfl; (with_reducible repeat (first | refine blk_drewN ?_ _ | refine blk_drew ?_ | refine blk_alloc ?_ _)); refine blk_put (cs := #[.int .i64 0, .slice none 0 0]) ?_ 0 _ rfl; (with_reducible repeat (first | refine blk_drewN ?_ _ | refine blk_drew ?_ | refine blk_alloc ?_ _)); refine blk_far ?_ NB134_141.out _; (with_reducible repeat (first | refine blk_drewN ?_ _ | refine blk_drew ?_ | refine blk_alloc ?_ _)); exact BK134.out) Try.underlying53 rfl (by kernel_rfl)) rfl ?_
    exact ⟨_, zb36, by (with_reducible repeat (first | apply Kd.R_alloc | apply Kd.R_drewN | apply Kd.R_drew)); exact Kd.R_mono (Kd.R_far (p := ⟨gb134, 1, none⟩) (Kd.R_far (p := ⟨gb134, 0, none⟩) (Kd.R_far (p := ⟨gb141, 0, none⟩) (Kd.R_types (Kd.R_types HO140.out BK141.out (by decide)) BK134.out (by decide)) (fun _ hk => hk.1.2) (.int .i64 ji9)) (fun _ hk => hk.2) (.int .i64 ji9)) (fun _ hk => hk.2) (.slice (some ⟨go7, 0, none⟩) y138.length co20)) (fun _ hk => trivial), zb33⟩
   ·rw [if_neg c6] at H
    exact absurd H (by simp)
  ·rw [if_neg c5] at H
   exact absurd H (by simp)
 ·rw [if_neg c4] at H
  exact absurd H (by simp)

end Go.Proofs.Ytahnodgbfonlhaa.PFnMarks
