/- Contracts of the functions that the law FnMarks reaches, part 11: each says that the call returns what the Lean function of the same name computes. Made by a program of this session. -/
import Derived.Test.YtahnodgbfonlhaaQFnMarksx0
import Derived.Test.YtahnodgbfonlhaaQFnMarksx9
import Derived.Test.YtahnodgbfonlhaaQFnMarksx10
namespace Go.Proofs.Ytahnodgbfonlhaa.PFnMarks
open Go.RowKit Go.Proofs.YtahnodgbfonlhaaW.PrintWords Go.Proofs.YtahnodgbfonlhaaW.PrintLast Go.Proofs.YtahnodgbfonlhaaW.PrintMore
attribute [local go_sem] max2_int min2_int max_two min_two max_three min_three max_four min_four   -- for this text's walks alone
set_option linter.unusedVariables false
set_option linter.unusedSimpArgs false

/-! ### impl_MarkIdle: function 33 -/
def impl_MarkIdle.f (k : Nat) (a0_0 : Int) (l0_1 : List (S63)) (a1 : Int) (a2 : Bool) : Option (Int × (List (S63)) × Int) := (impl_hasMark.f k a0_0 l0_1 a1).bind fun t341 => (if t341 = true then (if 0 ≤ a1 then (if a1 < (l0_1.length : Int) then ((impl_Marks_with.f k a0_0 l0_1 a1 ((rd_T63 l0_1 a1).f0) a2).bind fun bt343 => (some (bt343.1, bt343.2, 0))) else (none)) else (none)) else (some (0, ([] : List (S63)), 1)))
theorem impl_MarkIdle.mono : ∀ a0 a1 a2 a3 k, LeO (impl_MarkIdle.f k a0 a1 a2 a3) (impl_MarkIdle.f (k + 1) a0 a1 a2 a3) := by
 intro a0 a1 a2 a3 k
 unfold impl_MarkIdle.f
 repeat' first
   | (with_reducible exact impl_Marks_with.mono _ _ _ _ _ _)
   | (with_reducible exact impl_hasMark.mono _ _ _ _)
   | (with_reducible exact LeO.refl _)
   | (with_reducible exact LeO.none _)
   | (with_reducible refine LeO.ite ?_ ?_)
   | (with_reducible refine LeO.bind ?_ (fun _ => ?_))
   | exact impl_Marks_with.mono _ _ _ _ _ _
   | exact impl_hasMark.mono _ _ _ _
   | exact LeO.none _
   | refine LeO.ite ?_ ?_
   | refine LeO.bind ?_ (fun _ => ?_)
def impl_MarkIdle.T3 : Bool × List (List Nat × List Nat) := (true, [([], []), ([], []), ([], []), ([2], [2]), ([], []), ([3, 4], [3, 4]), ([5], [5]), ([6], [6]), ([], []), ([7, 8], [7, 8]), ([0, 1, 9], [0, 1, 9]), ([10, 10, 0, 1, 2, 3, 4, 5, 6, 7, 8, 9, 10], [10]), ([11, 0, 1, 2, 3, 4, 5, 6, 7, 8, 9, 10, 11], [])])
def impl_MarkIdle.B3 : List Nat := [0, 0, 0, 4, 0, 28, 60, 124, 0, 508, 1023, 2047, 4095]
theorem impl_MarkIdle.tab3 : rtab .any (opsOf Try.f33 3) = impl_MarkIdle.T3 := by kernel_rfl
theorem impl_MarkIdle.bits3 : waitsOk impl_MarkIdle.T3.2 impl_MarkIdle.B3 = true := by kernel_rfl
set_option maxHeartbeats 8000000 in
set_option maxRecDepth 100000 in
theorem impl_MarkIdle.calls (k : Nat) (a0_0 : Int) (A0_1 : Option Addr) (c0_1 : Nat) (l0_1 : List (S63)) (a1 : Int) (a2 : Bool) (r1 : Int) (r2 : List (S63)) (r3 : Int) (w : World) (hr0_1 : Kd.C k63 w A0_1 l0_1.length l0_1) (hc0_1 : l0_1.length ≤ c0_1) (h : impl_MarkIdle.f k a0_0 l0_1 a1 a2 = some (r1, r2, r3)) :
  Calls Try.prog 33 #[.agg #[.int .i64 a0_0, .slice A0_1 l0_1.length c0_1], .int .i64 a1, .bool a2] w fun e w' => ∃ v1_ : Value, e = .returned (.tuple #[.agg #[.int .i64 r1, v1_], .int .i64 r3]) ∧ Kd.R k63 63 w' w.heap.size (fun _ => True) v1_ r2 ∧ Below w.heap.size w w' := by
 have hu53 := Try.underlying53
 have hu63 := Try.underlying63
 have HR0_1 := Aside0.mk hr0_1
 have HC0_1 := Aside0.mk hc0_1
 clear hr0_1 hc0_1
 have HB := Aside0.mk (Below.refl w.heap.size w)
 have H : ((impl_hasMark.f k a0_0 l0_1 a1).bind fun t341 => (if t341 = true then (if 0 ≤ a1 then (if a1 < (l0_1.length : Int) then ((impl_Marks_with.f k a0_0 l0_1 a1 ((rd_T63 l0_1 a1).f0) a2).bind fun bt343 => (some (bt343.1, bt343.2, 0))) else (none)) else (none)) else (some (0, ([] : List (S63)), 1)))) = some (r1, r2, r3) := h
 clear h
 replace H := Option.bind_eq_some_iff.mp H
 obtain ⟨t341, A40, H⟩ := H
 replace H : (if t341 = true then (if 0 ≤ a1 then (if a1 < (l0_1.length : Int) then ((impl_Marks_with.f k a0_0 l0_1 a1 ((rd_T63 l0_1 a1).f0) a2).bind fun bt343 => (some (bt343.1, bt343.2, 0))) else (none)) else (none)) else (some (0, ([] : List (S63)), 1))) = some (r1, r2, r3) := H
 have A4 := Aside0.mk A40
 clear A40
 by_cases c5 : t341 = true
 ·subst c5
  have H1 : (if 0 ≤ a1 then (if a1 < (l0_1.length : Int) then ((impl_Marks_with.f k a0_0 l0_1 a1 ((rd_T63 l0_1 a1).f0) a2).bind fun bt343 => (some (bt343.1, bt343.2, 0))) else (none)) else (none)) = some (r1, r2, r3) := by rw [if_pos rfl] at H; exact H
  clear H
  have H := H1
  clear H1
  by_cases c6 : 0 ≤ a1
  ·rw [if_pos c6] at H
   have c6b0 : decide (0 ≤ a1) = true := decide_eq_true c6
   clear c6
   by_cases c7 : a1 < (l0_1.length : Int)
   ·rw [if_pos c7] at H
    have c7b0 : decide (a1 < (l0_1.length : Int)) = true := decide_eq_true c7
    clear c7
    replace H := Option.bind_eq_some_iff.mp H
    obtain ⟨⟨t343, t344⟩, A80, H⟩ := H
    replace H : (some (t343, t344, 0)) = some (r1, r2, r3) := H
    have A8 := Aside0.mk A80
    clear A80
    simp only [Option.some.injEq, Prod.mk.injEq] at H
    obtain ⟨rfl, rfl, rfl⟩ := H
    go_enter Try.func33, Try.ntmps33
    try go_wp2_with (first | ((with_reducible refine gate_dst (N := 3) rfl ?_); refine box_event ?hg (N := 3) ?hd (cs := #[.int .i64 a0_0, .slice A0_1 l0_1.length c0_1]) (t := 53) ?hr ?_; (case hd => rfl); (case hg => rfl); (case hr => first | (go_simp; done) | (go_simp; rfl)); intro gb339 hg w9 hbox hb; have n0_ := Aside0.mk (below_step (zb3) hb); have n1_ := Aside0.mk (hbox); have n2_ := Aside0.mk ((by rw [hg]; exact (below_size (zb3)) : w.heap.size ≤ gb339)); have n3_ := Aside0.mk ((by rw [hg]; exact (below_size (zb3)) : w.heap.size ≤ gb339)); clear HB; have HB := n0_; have BK339 := n1_; have GW339 := n2_; have GE339 := n3_; clear n0_ n1_ n2_ n3_; clear hb hbox hg) | ((with_reducible refine gate_dst (N := 6) rfl ?_); refine box_event ?hg (N := 6) ?hd (cs := #[.int .i64 0, .slice none 0 0]) (t := 53) ?hr ?_; (case hd => rfl); (case hg => rfl); (case hr => first | (go_simp; done) | (go_simp; rfl)); intro gb340 hg w10 hbox hb; have n0_ := Aside0.mk (blk_below (g := gb339) (o := .cells #[.int .i64 a0_0, .slice A0_1 l0_1.length c0_1] 53 (0, 0)) (zb137) hb); have n1_ := Aside0.mk (below_step (zb138) hb); have n2_ := Aside0.mk (hbox); have n3_ := Aside0.mk ((by rw [hg]; exact (below_size (zb138)) : w.heap.size ≤ gb340)); have n4_ := Aside0.mk ((by rw [hg]; exact (below_size (zb138)) : w.heap.size ≤ gb340)); have n5_ := Aside0.mk ((by rw [hg]; exact Nat.ne_of_lt (blk_lt (g := gb339) (o := .cells #[.int .i64 a0_0, .slice A0_1 l0_1.length c0_1] 53 (0, 0)) (zb137)) : gb339 ≠ gb340)); have n6_ := Aside0.mk ((by rw [hg]; exact Nat.ne_of_gt (blk_lt (g := gb339) (o := .cells #[.int .i64 a0_0, .slice A0_1 l0_1.length c0_1] 53 (0, 0)) (zb137)) : gb340 ≠ gb339)); clear BK339; clear HB; have BK339 := n0_; have HB := n1_; have BK340 := n2_; have GW340 := n3_; have GE340 := n4_; have NB339_340 := n5_; have NB340_339 := n6_; clear n0_ n1_ n2_ n3_ n4_ n5_ n6_; clear hb hbox hg; have hnb11 := NB339_340.out; have hnc11 := NB340_339.out; have hcz12_0 : w10.cell? ⟨gb339, 0, none⟩ = some (.int .i64 a0_0) := (blk_cell BK339.out 0).trans rfl; have hcz12_1 : w10.cell? ⟨gb339, 1, none⟩ = some (.slice A0_1 l0_1.length c0_1) := (blk_cell BK339.out 1).trans rfl; have hfz12_0 := blk_frozen BK339.out 0; have hfz12_1 := blk_frozen BK339.out 1) | ((with_reducible refine gate_callee (f := 70) rfl ?_); refine goesL_ (some 10) rfl rfl Try.func70 (by kernel_rfl) rfl #[.agg #[.int .i64 a0_0, .slice A0_1 l0_1.length c0_1], .int .i64 a1] rfl (zb10) ?_; (with_reducible refine (impl_hasMark.calls k a0_0 _ _ l0_1 a1 true _ ?side1 ?side2 A4.out).mono ?_); (case side1 => exact zb19); (case side2 => exact HC0_1.out); rintro e w13 ⟨rfl, hb⟩; refine ⟨_, rfl, ?_⟩; have n0_ := Aside0.mk (blk_below (g := gb339) (o := .cells #[.int .i64 a0_0, .slice A0_1 l0_1.length c0_1] 53 (0, 0)) (zb137) hb); have n1_ := Aside0.mk (blk_below (g := gb340) (o := .cells #[.int .i64 0, .slice none 0 0] 53 (0, 0)) (zb139) hb); have n2_ := Aside0.mk (below_step (zb140) hb); clear BK339; clear BK340; clear HB; have BK339 := n0_; have BK340 := n1_; have HB := n2_; clear n0_ n1_ n2_; (try clear hb); (try clear hb2); (try clear hk); (try clear hi)))
    have n0_ := Aside0.mk (blk_drew BK339.out)
    have n1_ := Aside0.mk (blk_drew BK340.out)
    have n2_ := Aside0.mk (below_drew1 HB.out)
    clear BK339
    clear BK340
    clear HB
    have BK339 := n0_
    have BK340 := n1_
    have HB := n2_
    clear n0_ n1_ n2_
    have p342 : 0 ≤ (a1 : Int) := of_decide_eq_true (zb9)
    have q342 : a1 < (l0_1.length : Int) := of_decide_eq_true (zb9)
    obtain ⟨ad342, e342, hx342_0, hx342_1⟩ := at_T63 HR0_1.out a1 p342 q342
    have hw342_1 := hx342_1
    have hw342_0 := hx342_0
    cases e342
    replace hx342_0 := (HB.out.cell (World.block_lt_of_cell? w _ hx342_0)).trans hx342_0
    replace hx342_1 := (HB.out.cell (World.block_lt_of_cell? w _ hx342_1)).trans hx342_1
    replace p342 := eq_true p342
    replace q342 := eq_true q342
    refine start_ (n := 13) (S := fun w' => w'.cell? ⟨gb339, 0, none⟩ = some (.int .i64 a0_0) ∧ w'.cell? ⟨gb339, 1, none⟩ = some (.slice (some ad342) l0_1.length c0_1) ∧ w'.cell? (ad342.add ((a1).toNat * 2)) = some (.int .i64 ((rd_T63 l0_1 a1).f0)) ∧ w'.cell? ⟨(ad342.add ((a1).toNat * 2)).block, (ad342.add ((a1).toNat * 2)).off + 1, none⟩ = some (.bool ((rd_T63 l0_1 a1).f1))) (ds := []) #[false, false, false, false, false, false, false, false, false, false, false, false, false] (by kernel_rfl) rfl rfl ⟨(blk_cell BK339.out 0).trans rfl, (blk_cell BK339.out 1).trans rfl, ((HB.out.cell (World.block_lt_of_cell? w _ hw342_0)).trans hw342_0), ((HB.out.cell (World.block_lt_of_cell? w _ hw342_1)).trans hw342_1)⟩ (fun hHeld => ?_); refine with_tabW impl_MarkIdle.tab3 impl_MarkIdle.bits3 (fun HT_ HW_ => ?_)
    generalize w13.drew = w14 at BK339 BK340 HB hx342_0 hx342_1 hHeld ⊢
    refine pz 1 14 (bz 13 2) rfl rfl ?_
    refine pz 2 15 (bz 13 6) rfl rfl ?_
    refine pz 4 17 (bz 13 22) rfl rfl ?_
    refine pz 8 21 (bz 13 278) rfl rfl ?_
    refine tz 0 13 (bz 13 279) rfl rfl (Or.inl ⟨by rfl, by rintro w' ⟨s0, s1, s2, s3⟩; go_simp; with_reducible rfl⟩) hHeld ?_
    refine tz 3 16 (bz 13 287) rfl rfl (Or.inl ⟨by rfl, by rintro w' ⟨s0, s1, s2, s3⟩; go_simp; with_reducible rfl⟩) hHeld ?_
    refine pz 5 18 (bz 13 319) rfl rfl ?_
    refine pz 6 19 (bz 13 383) rfl rfl ?_
    refine tz 7 20 (bz 13 511) rfl rfl (Or.inl ⟨by rfl, by rintro w' ⟨s0, s1, s2, s3⟩; go_simp; with_reducible rfl⟩) hHeld ?_
    refine pz 9 22 (bz 13 1023) rfl rfl ?_
    refine one_ (i := 10) (N := some 23) (bz 13 2047) rfl rfl (one_of HT_.out (by kernel_rfl)) (by decide) (fun K hK => ?_)
    refine goes_ Try.func71 (by kernel_rfl) rfl #[.agg #[.int .i64 a0_0, .slice (some ad342) l0_1.length c0_1], .int .i64 a1, .agg #[.int .i64 ((rd_T63 l0_1 a1).f0), .bool a2]] (by rfl) rfl rfl (zb10) ?_
    with_reducible refine (impl_Marks_with.calls k a0_0 _ _ l0_1 a1 ((rd_T63 l0_1 a1).f0) a2 t343 t344 _ ?side1 ?side2 A8.out).mono ?_
    (case side1 => exact zb19)
    (case side2 => exact HC0_1.out)
    rintro e w15 ⟨v345, rfl, ho0, hb⟩
    refine ⟨_, rfl, ?_⟩
    have n0_ := Aside0.mk (Kd.R_lower ho0 (below_size (zb140)))
    have n1_ := Aside0.mk (blk_below (g := gb339) (o := .cells #[.int .i64 a0_0, .slice (some ad342) l0_1.length c0_1] 53 (0, 0)) (zb137) hb)
    have n2_ := Aside0.mk (blk_below (g := gb340) (o := .cells #[.int .i64 0, .slice none 0 0] 53 (0, 0)) (zb139) hb)
    have n3_ := Aside0.mk (below_step (zb140) hb)
    clear BK339
    clear BK340
    clear HB
    have HO346 := n0_
    have BK339 := n1_
    have BK340 := n2_
    have HB := n3_
    clear n0_ n1_ n2_ n3_
    (try clear hb)
    (try clear hb2)
    (try clear hk)
    (try clear hi)
    (try clear ho0)
    obtain ⟨Ao17, co17, eo17⟩ := Kd.R_slice HO346.out
    (first | subst eo17 | (injection eo17 with f1_ f2_ f3_; have f4_ := f1_.symm; have f5_ := f3_.symm; clear f1_ f2_ f3_; subst f4_; subst f5_))
    refine hK.out _ _ ⟨(blk_cell BK339.out 0).trans rfl, (blk_cell BK339.out 1).trans rfl, ((HB.out.cell (World.block_lt_of_cell? w _ hw342_0)).trans hw342_0), ((HB.out.cell (World.block_lt_of_cell? w _ hw342_1)).trans hw342_1)⟩ (fun hHeld => ?_)
    clear hK K
    refine norm_ (a' := ?_) ?_ ?_
    rotate_left
    ·show Act.put _ (some 23) _ = _
     simp only [Act.put, List.setIfInBounds_toArray, List.set_cons_zero, List.set_cons_succ, i64_w, i32_w]
     rfl
    refine one_ (i := 11) (N := none) (bz 13 4095) rfl rfl (one_of HT_.out (by kernel_rfl)) (by decide) (fun K hK => ?_)
    have hs16 : w15.cell? ⟨gb340, 0, none⟩ = some (.int .i64 0) := (blk_cell BK340.out 0).trans rfl
    have hfs16 := blk_frozen BK340.out 0
    have hns16_0 := NB339_340.out
    have hms16_0 := NB340_339.out
    have hs18 : w15.cell? ⟨gb340, 1, none⟩ = some (.slice none 0 0) := (blk_cell BK340.out 1).trans rfl
    have hfs18 := blk_frozen BK340.out 1
    have hns18_0 := NB339_340.out
    have hms18_0 := NB340_339.out
    refine skip_ (w1 := ?_) (by rfl) rfl ?_ ?_
    rotate_left
    ·go_simp
     rfl
    refine hK.out _ _ ⟨((cell_far (p := ⟨gb340, _, none⟩) NB339_340.out _).trans (((cell_far (p := ⟨gb340, _, none⟩) NB339_340.out _).trans (hHeld.1)))), ((cell_far (p := ⟨gb340, _, none⟩) NB339_340.out _).trans (((cell_far (p := ⟨gb340, _, none⟩) NB339_340.out _).trans (hHeld.2.1)))), ((cell_far (p := ⟨gb340, _, none⟩) (zb141) _).trans (((cell_far (p := ⟨gb340, _, none⟩) (zb141) _).trans (hHeld.2.2.1)))), ((cell_far (p := ⟨gb340, _, none⟩) (zb142) _).trans (((cell_far (p := ⟨gb340, _, none⟩) (zb142) _).trans (hHeld.2.2.2))))⟩ (fun hHeld => ?_)
    clear hK K
    refine pz 12 7 (bz 13 8191) rfl rfl ?_
    refine done_ (done_of HT_.out (by kernel_rfl)) ?_
    try go_wp2
    refine bodyPost_ret (results_ct rfl _ _ gb340 53 #[.int .i64 t343, .slice Ao17 t344.length co17] (0, 0) _ rfl (by (with_reducible repeat (first | refine blk_drewN ?_ _ | refine blk_drew ?_ | refine blk_alloc ?_ _)); refine blk_put (cs := #[.int .i64 t343, .slice none 0 0]) ?_ 1 _ rfl; (with_reducible repeat (first | refine blk_drewN ?_ _ | refine blk_drew ?_ | refine blk_alloc ?_ _)); refine blk_put (cs := #[.int .i64 0, .slice none 0 0]) ?_ 0 _ rfl; (with_reducible repeat (first | refine blk_drewN ?_ _ | refine blk_drew ?_ | refine blk_alloc ?_ _)); exact BK340.out) Try.underlying53 rfl (by kernel_rfl)) rfl ?_
    exact ⟨_, zb5, by (with_reducible repeat (first | apply Kd.R_alloc | apply Kd.R_drewN | apply Kd.R_drew)); exact Kd.R_mono (Kd.R_far (p := ⟨gb340, 1, none⟩) (Kd.R_far (p := ⟨gb340, 0, none⟩) (Kd.R_types HO346.out BK340.out (by decide)) (fun _ hk => hk.2) (.int .i64 t343)) (fun _ hk => hk.2) (.slice Ao17 t344.length co17)) (fun _ hk => trivial), zb140⟩
   ·rw [if_neg c7] at H
    exact absurd H (by simp)
  ·rw [if_neg c6] at H
   exact absurd H (by simp)
 ·replace c5 := Bool.eq_false_iff.mpr c5
  subst c5
  have H1 : (some (0, ([] : List (S63)), 1)) = some (r1, r2, r3) := by rw [if_neg (show ¬ (false = true) by decide)] at H; exact H
  clear H
  have H := H1
  clear H1
  simp only [Option.some.injEq, Prod.mk.injEq] at H
  obtain ⟨rfl, rfl, rfl⟩ := H
  go_enter Try.func33, Try.ntmps33
  go_wp2_with (first | ((with_reducible refine gate_dst (N := 3) rfl ?_); refine box_event ?hg (N := 3) ?hd (cs := #[.int .i64 a0_0, .slice A0_1 l0_1.length c0_1]) (t := 53) ?hr ?_; (case hd => rfl); (case hg => rfl); (case hr => first | (go_simp; done) | (go_simp; rfl)); intro gb339 hg w19 hbox hb; have n0_ := Aside0.mk (below_step (zb3) hb); have n1_ := Aside0.mk (hbox); have n2_ := Aside0.mk ((by rw [hg]; exact (below_size (zb3)) : w.heap.size ≤ gb339)); have n3_ := Aside0.mk ((by rw [hg]; exact (below_size (zb3)) : w.heap.size ≤ gb339)); clear HB; have HB := n0_; have BK339 := n1_; have GW339 := n2_; have GE339 := n3_; clear n0_ n1_ n2_ n3_; clear hb hbox hg) | ((with_reducible refine gate_dst (N := 6) rfl ?_); refine box_event ?hg (N := 6) ?hd (cs := #[.int .i64 0, .slice none 0 0]) (t := 53) ?hr ?_; (case hd => rfl); (case hg => rfl); (case hr => first | (go_simp; done) | (go_simp; rfl)); intro gb340 hg w20 hbox hb; have n0_ := Aside0.mk (blk_below (g := gb339) (o := .cells #[.int .i64 a0_0, .slice A0_1 l0_1.length c0_1] 53 (0, 0)) (zb137) hb); have n1_ := Aside0.mk (below_step (zb138) hb); have n2_ := Aside0.mk (hbox); have n3_ := Aside0.mk ((by rw [hg]; exact (below_size (zb138)) : w.heap.size ≤ gb340)); have n4_ := Aside0.mk ((by rw [hg]; exact (below_size (zb138)) : w.heap.size ≤ gb340)); have n5_ := Aside0.mk ((by rw [hg]; exact Nat.ne_of_lt (blk_lt (g := gb339) (o := .cells #[.int .i64 a0_0, .slice A0_1 l0_1.length c0_1] 53 (0, 0)) (zb137)) : gb339 ≠ gb340)); have n6_ := Aside0.mk ((by rw [hg]; exact Nat.ne_of_gt (blk_lt (g := gb339) (o := .cells #[.int .i64 a0_0, .slice A0_1 l0_1.length c0_1] 53 (0, 0)) (zb137)) : gb340 ≠ gb339)); clear BK339; clear HB; have BK339 := n0_; have HB := n1_; have BK340 := n2_; have GW340 := n3_; have GE340 := n4_; have NB339_340 := n5_; have NB340_339 := n6_; clear n0_ n1_ n2_ n3_ n4_ n5_ n6_; clear hb hbox hg; have hnb21 := NB339_340.out; have hnc21 := NB340_339.out; have hcz22_0 : w20.cell? ⟨gb339, 0, none⟩ = some (.int .i64 a0_0) := (blk_cell BK339.out 0).trans rfl; have hcz22_1 : w20.cell? ⟨gb339, 1, none⟩ = some (.slice A0_1 l0_1.length c0_1) := (blk_cell BK339.out 1).trans rfl; have hfz22_0 := blk_frozen BK339.out 0; have hfz22_1 := blk_frozen BK339.out 1) | ((with_reducible refine gate_callee (f := 70) rfl ?_); refine goesL_ (some 10) rfl rfl Try.func70 (by kernel_rfl) rfl #[.agg #[.int .i64 a0_0, .slice A0_1 l0_1.length c0_1], .int .i64 a1] rfl (zb10) ?_; (with_reducible refine (impl_hasMark.calls k a0_0 _ _ l0_1 a1 false _ ?side1 ?side2 A4.out).mono ?_); (case side1 => exact zb19); (case side2 => exact HC0_1.out); rintro e w23 ⟨rfl, hb⟩; refine ⟨_, rfl, ?_⟩; have n0_ := Aside0.mk (blk_below (g := gb339) (o := .cells #[.int .i64 a0_0, .slice A0_1 l0_1.length c0_1] 53 (0, 0)) (zb137) hb); have n1_ := Aside0.mk (blk_below (g := gb340) (o := .cells #[.int .i64 0, .slice none 0 0] 53 (0, 0)) (zb139) hb); have n2_ := Aside0.mk (below_step (zb140) hb); clear BK339; clear BK340; clear HB; have BK339 := n0_; have BK340 := n1_; have HB := n2_; clear n0_ n1_ n2_; (try clear hb); (try clear hb2); (try clear hk); (try clear hi); have hcz24_0 : w23.cell? ⟨gb340, 0, none⟩ = some (.int .i64 0) := (blk_cell BK340.out 0).trans rfl; have hcz24_1 : w23.cell? ⟨gb340, 1, none⟩ = some (.slice none 0 0) := (blk_cell BK340.out 1).trans rfl; have hfz24_0 := blk_frozen BK340.out 0; have hfz24_1 := blk_frozen BK340.out 1))
  refine bodyPost_ret (results_ct rfl _ _ gb340 53 #[.int .i64 0, .slice none 0 0] (0, 0) _ rfl (by (with_reducible repeat (first | refine blk_drewN ?_ _ | refine blk_drew ?_ | refine blk_alloc ?_ _)); refine blk_put (cs := #[.int .i64 0, .slice none 0 0]) ?_ 1 _ rfl; (with_reducible repeat (first | refine blk_drewN ?_ _ | refine blk_drew ?_ | refine blk_alloc ?_ _)); refine blk_put (cs := #[.int .i64 0, .slice none 0 0]) ?_ 0 _ rfl; (with_reducible repeat (first | refine blk_drewN ?_ _ | refine blk_drew ?_ | refine blk_alloc ?_ _)); exact BK340.out) Try.underlying53 rfl (by kernel_rfl)) rfl ?_
  exact ⟨_, zb5, zb42, zb140⟩

/-! ### impl_MarksLeast: function 35 -/
mutual
def impl_MarksLeast.l0 : Nat → Int → Bool → List (S63) → Int → Int → Option (Int)
 | 0, _, _, _, _, _ => none
 | k + 1, x3, x4, x8, x9, x10 => if x10 < x9 then (if 0 ≤ x10 then (if x10 < (x8.length : Int) then (if ((rd_T63 x8 x10).f1 = true) then (impl_MarksLeast.j1 k x3 x4 x8 x9 x10 false ((rd_T63 x8 x10).f0) ((rd_T63 x8 x10).f1)) else (if x4 = true then (impl_MarksLeast.j1 k x3 x4 x8 x9 x10 true ((rd_T63 x8 x10).f0) ((rd_T63 x8 x10).f1)) else (impl_MarksLeast.j1 k x3 x4 x8 x9 x10 (decide (((rd_T63 x8 x10).f0) < x3)) ((rd_T63 x8 x10).f0) ((rd_T63 x8 x10).f1)))) else (none)) else (none)) else (some x3)
def impl_MarksLeast.j1 : Nat → Int → Bool → List (S63) → Int → Int → Bool → Int → Bool → Option (Int)
 | 0, _, _, _, _, _, _, _, _ => none
 | k + 1, x3, x4, x8, x9, x10, x25, x350000, x350001 => if x25 = true then (impl_MarksLeast.l0 k x350000 false x8 x9 (wrap64 (x10 + 1))) else (impl_MarksLeast.l0 k x3 x4 x8 x9 (wrap64 (x10 + 1)))
end
def impl_MarksLeast.f (k : Nat) (a0_0 : Int) (l0_1 : List (S63)) : Option (Int) := impl_MarksLeast.l0 k (-1) true l0_1 (l0_1.length : Int) 0
theorem impl_MarksLeast.mono_l : ∀ k, (∀ y0 y1 y2 y3 y4, LeO (impl_MarksLeast.l0 k y0 y1 y2 y3 y4) (impl_MarksLeast.l0 (k + 1) y0 y1 y2 y3 y4)) ∧ (∀ y0 y1 y2 y3 y4 y5 y6 y7, LeO (impl_MarksLeast.j1 k y0 y1 y2 y3 y4 y5 y6 y7) (impl_MarksLeast.j1 (k + 1) y0 y1 y2 y3 y4 y5 y6 y7))
 | 0 => ⟨fun _ _ _ _ _ r h => by simp [impl_MarksLeast.l0] at h, fun _ _ _ _ _ _ _ _ r h => by simp [impl_MarksLeast.j1] at h⟩
 | k + 1 => by
  obtain ⟨ih0, ih1⟩ := impl_MarksLeast.mono_l k
  refine ⟨?_, ?_⟩
  ·intro y0 y1 y2 y3 y4
   unfold impl_MarksLeast.l0
   repeat' first
   | (with_reducible exact ih0 _ _ _ _ _)
   | (with_reducible exact ih1 _ _ _ _ _ _ _ _)
   | (with_reducible exact LeO.refl _)
   | (with_reducible exact LeO.none _)
   | (with_reducible refine LeO.ite ?_ ?_)
   | (with_reducible refine LeO.bind ?_ (fun _ => ?_))
   | exact ih0 _ _ _ _ _
   | exact ih1 _ _ _ _ _ _ _ _
   | exact LeO.none _
   | refine LeO.ite ?_ ?_
   | refine LeO.bind ?_ (fun _ => ?_)
  ·intro y0 y1 y2 y3 y4 y5 y6 y7
   unfold impl_MarksLeast.j1
   repeat' first
   | (with_reducible exact ih0 _ _ _ _ _)
   | (with_reducible exact ih1 _ _ _ _ _ _ _ _)
   | (with_reducible exact LeO.refl _)
   | (with_reducible exact LeO.none _)
   | (with_reducible refine LeO.ite ?_ ?_)
   | (with_reducible refine LeO.bind ?_ (fun _ => ?_))
   | exact ih0 _ _ _ _ _
   | exact ih1 _ _ _ _ _ _ _ _
   | exact LeO.none _
   | refine LeO.ite ?_ ?_
   | refine LeO.bind ?_ (fun _ => ?_)
theorem impl_MarksLeast.mono : ∀ a0 a1 k, LeO (impl_MarksLeast.f k a0 a1) (impl_MarksLeast.f (k + 1) a0 a1) := by
 intro a0 a1 k
 obtain ⟨ih0, ih1⟩ := impl_MarksLeast.mono_l k
 unfold impl_MarksLeast.f
 repeat' first
   | (with_reducible exact ih0 _ _ _ _ _)
   | (with_reducible exact ih1 _ _ _ _ _ _ _ _)
   | (with_reducible exact LeO.refl _)
   | (with_reducible exact LeO.none _)
   | (with_reducible refine LeO.ite ?_ ?_)
   | (with_reducible refine LeO.bind ?_ (fun _ => ?_))
   | exact ih0 _ _ _ _ _
   | exact ih1 _ _ _ _ _ _ _ _
   | exact LeO.none _
   | refine LeO.ite ?_ ?_
   | refine LeO.bind ?_ (fun _ => ?_)
set_option maxHeartbeats 8000000 in
set_option maxRecDepth 100000 in
theorem impl_MarksLeast.calls (k : Nat) (a0_0 : Int) (A0_1 : Option Addr) (c0_1 : Nat) (l0_1 : List (S63)) (r : Int) (w : World) (hr0_1 : Kd.C k63 w A0_1 l0_1.length l0_1) (hc0_1 : l0_1.length ≤ c0_1) (h : impl_MarksLeast.f k a0_0 l0_1 = some r) :
  Calls Try.prog 35 #[.agg #[.int .i64 a0_0, .slice A0_1 l0_1.length c0_1]] w fun e w' => e = .returned (.int .i64 r) ∧ Below w.heap.size w w' := by
 have hu53 := Try.underlying53
 have hu63 := Try.underlying63
 have HR0_1 := Aside0.mk hr0_1
 have HC0_1 := Aside0.mk hc0_1
 clear hr0_1 hc0_1
 have HB := Aside0.mk (Below.refl w.heap.size w)
 have H : (impl_MarksLeast.l0 k (-1) true l0_1 (l0_1.length : Int) 0) = some r := h
 clear h
 have H' := Aside0.mk H
 clear H
 go_enter Try.func35, Try.ntmps35
 go_wp2_with (first | ((with_reducible refine gate_dst (N := 1) rfl ?_); refine box_event ?hg (N := 1) ?hd (cs := #[.int .i64 a0_0, .slice A0_1 l0_1.length c0_1]) (t := 53) ?hr ?_; (case hd => rfl); (case hg => rfl); (case hr => first | (go_simp; done) | (go_simp; rfl)); intro gb347 hg w2 hbox hb; have n0_ := Aside0.mk (below_step (zb3) hb); have n1_ := Aside0.mk (hbox); have n2_ := Aside0.mk ((by rw [hg]; exact (below_size (zb3)) : w.heap.size ≤ gb347)); have n3_ := Aside0.mk ((by rw [hg]; exact (below_size (zb3)) : w.heap.size ≤ gb347)); clear HB; have HB := n0_; have BK347 := n1_; have GW347 := n2_; have GE347 := n3_; clear n0_ n1_ n2_ n3_; clear hb hbox hg; have hcz3_0 : w2.cell? ⟨gb347, 0, none⟩ = some (.int .i64 a0_0) := (blk_cell BK347.out 0).trans rfl; have hcz3_1 : w2.cell? ⟨gb347, 1, none⟩ = some (.slice A0_1 l0_1.length c0_1) := (blk_cell BK347.out 1).trans rfl; have hfz3_0 := blk_frozen BK347.out 0; have hfz3_1 := blk_frozen BK347.out 1))
 go_loopg [3, 4, 10] k (fun kq v3 v4 v10 w' => ∃ (x3_1 : Int) (x4_1 : Bool) (x10_1 : Int), v3 = .int .i64 x3_1 ∧ v4 = .bool x4_1 ∧ v10 = .int .i64 x10_1 ∧ Aside0 (impl_MarksLeast.l0 kq x3_1 x4_1 l0_1 (l0_1.length : Int) x10_1 = some r) ∧ Aside0 (kq ≤ k) ∧ Aside0 (w'.heap[gb347]? = some (.cells #[.int .i64 a0_0, (.slice A0_1 l0_1.length c0_1)] 53 (0, 0))) ∧ Aside0 (Below w.heap.size w w'))
 case atStart => exact ⟨((-1)), (true), (0), (zb1), (zb1), (zb1), H', ⟨Nat.le_refl _⟩, ⟨zb143⟩, ⟨zb144⟩⟩
 case round =>
  clear H'
  try clear p2
  try clear c3
  try clear hcz3_0
  try clear hcz3_1
  try clear hfz3_0
  try clear hfz3_1
  obtain ⟨x3_1, x4_1, x10_1, rfl, rfl, rfl, HA, HK1, BK347, HB⟩ := hrel
  cases gk with
  | zero => exact absurd HA.out (by simp [impl_MarksLeast.l0])
  | succ k1 =>
   have H := HA.out
   clear HA
   simp only [impl_MarksLeast.l0] at H
   by_cases c4 : x10_1 < (l0_1.length : Int)
   ·rw [if_pos c4] at H
    have c4b0 : decide (x10_1 < (l0_1.length : Int)) = true := decide_eq_true c4
    clear c4
    by_cases c5 : 0 ≤ x10_1
    ·rw [if_pos c5] at H
     have c5b0 : decide (0 ≤ x10_1) = true := decide_eq_true c5
     clear c5
     by_cases c6 : x10_1 < (l0_1.length : Int)
     ·rw [if_pos c6] at H
      have c6b0 : decide (x10_1 < (l0_1.length : Int)) = true := decide_eq_true c6
      clear c6
      have HC7 := Aside0.mk H
      clear H
      have p348 : 0 ≤ (x10_1 : Int) := of_decide_eq_true (zb9)
      have q348 : x10_1 < (l0_1.length : Int) := of_decide_eq_true (zb9)
      obtain ⟨ad348, e348, hx348_0, hx348_1⟩ := at_T63 HR0_1.out x10_1 p348 q348
      cases e348
      replace hx348_0 := (HB.out.cell (World.block_lt_of_cell? w _ hx348_0)).trans hx348_0
      replace hx348_1 := (HB.out.cell (World.block_lt_of_cell? w _ hx348_1)).trans hx348_1
      replace p348 := eq_true p348
      replace q348 := eq_true q348
      go_upto_region 5 with (first | ((with_reducible refine gate_dst (N := 6) rfl ?_); refine box_event ?hg (N := 6) ?hd (cs := #[.int .i64 0, .bool false]) (t := 63) ?hr ?_; (case hd => rfl); (case hg => rfl); (case hr => first | (go_simp; done) | (go_simp; rfl)); intro gb349 hg w8 hbox hb; have n0_ := Aside0.mk (blk_below (g := gb347) (o := .cells #[.int .i64 a0_0, .slice (some ad348) l0_1.length c0_1] 53 (0, 0)) (zb143) hb); have n1_ := Aside0.mk (below_step (zb144) hb); have n2_ := Aside0.mk (hbox); have n3_ := Aside0.mk ((by rw [hg]; exact (below_size (zb144)) : w.heap.size ≤ gb349)); have n4_ := Aside0.mk ((by rw [hg]; exact (below_size (zb144)) : w.heap.size ≤ gb349)); have n5_ := Aside0.mk ((by rw [hg]; exact Nat.ne_of_lt (blk_lt (g := gb347) (o := .cells #[.int .i64 a0_0, .slice (some ad348) l0_1.length c0_1] 53 (0, 0)) (zb143)) : gb347 ≠ gb349)); have n6_ := Aside0.mk ((by rw [hg]; exact Nat.ne_of_gt (blk_lt (g := gb347) (o := .cells #[.int .i64 a0_0, .slice (some ad348) l0_1.length c0_1] 53 (0, 0)) (zb143)) : gb349 ≠ gb347)); clear BK347; clear HB; have BK347 := n0_; have HB := n1_; have BK349 := n2_; have GW349 := n3_; have GE349 := n4_; have NB347_349 := n5_; have NB349_347 := n6_; clear n0_ n1_ n2_ n3_ n4_ n5_ n6_; clear hb hbox hg; have hnb9 := NB349_347.out; have hnc9 := NB347_349.out; have hcz10_0 : w8.cell? ⟨gb349, 0, none⟩ = some (.int .i64 0) := (blk_cell BK349.out 0).trans rfl; have hcz10_1 : w8.cell? ⟨gb349, 1, none⟩ = some (.bool false) := (blk_cell BK349.out 1).trans rfl; have hfz10_0 := blk_frozen BK349.out 0; have hfz10_1 := blk_frozen BK349.out 1))
      (try simp only [Act.put, List.setIfInBounds_toArray, List.set_cons_zero, List.set_cons_succ])
      go_cut [25] (fun v25 wc => ∃ (kq : Nat) (x25_6 : Bool), v25 = .bool x25_6 ∧ Aside0 (impl_MarksLeast.j1 kq x3_1 x4_1 l0_1 (l0_1.length : Int) x10_1 x25_6 ((rd_T63 l0_1 x10_1).f0) ((rd_T63 l0_1 x10_1).f1) = some r) ∧ Aside0 (kq ≤ k1) ∧ Aside0 (wc.heap[gb347]? = some (.cells #[.int .i64 a0_0, (.slice (some ad348) l0_1.length c0_1)] 53 (0, 0))) ∧ Aside0 (wc.heap[gb349]? = some (.cells #[.int .i64 ((rd_T63 l0_1 x10_1).f0), .bool ((rd_T63 l0_1 x10_1).f1)] 63 (0, 0))) ∧ Aside0 (Below w.heap.size w wc))
      case first =>
       have H := HC7.out
       clear HC7
       obtain ⟨bq11, hbq11⟩ : ∃ b_ : Bool, b_ = ((rd_T63 l0_1 x10_1).f1) := ⟨_, rfl⟩
       replace H : (if (bq11 = true) then (impl_MarksLeast.j1 k1 x3_1 x4_1 l0_1 (l0_1.length : Int) x10_1 false ((rd_T63 l0_1 x10_1).f0) bq11) else (if x4_1 = true then (impl_MarksLeast.j1 k1 x3_1 x4_1 l0_1 (l0_1.length : Int) x10_1 true ((rd_T63 l0_1 x10_1).f0) bq11) else (impl_MarksLeast.j1 k1 x3_1 x4_1 l0_1 (l0_1.length : Int) x10_1 (decide (((rd_T63 l0_1 x10_1).f0) < x3_1)) ((rd_T63 l0_1 x10_1).f0) bq11))) = some r := by rw [← hbq11] at H; exact H
       have Nbq11 := Aside0.mk hbq11
       clear hbq11
       (try rw [← Nbq11.out])
       by_cases c12 : (bq11 = true)
       ·subst c12
        have H1 : (impl_MarksLeast.j1 k1 x3_1 x4_1 l0_1 (l0_1.length : Int) x10_1 false ((rd_T63 l0_1 x10_1).f0) true) = some r := by rw [if_pos rfl] at H; exact H
        clear H
        have H := H1
        clear H1
        have H' := Aside0.mk H
        clear H
        have hnb13 := NB349_347.out
        have hnc13 := NB347_349.out
        have hcz14_0 : w8.cell? ⟨gb349, 0, none⟩ = some (.int .i64 0) := (blk_cell BK349.out 0).trans rfl
        have hcz14_1 : w8.cell? ⟨gb349, 1, none⟩ = some (.bool false) := (blk_cell BK349.out 1).trans rfl
        have hfz14_0 := blk_frozen BK349.out 0
        have hfz14_1 := blk_frozen BK349.out 1
        go_wp2
        go_meet
        case rel => (first | exact ⟨_, (false), (zb1), H', ⟨zb15⟩, ⟨zb145⟩, ⟨zb146⟩, ⟨zb147⟩⟩ | (rw [← Nbq11.out]; exact ⟨_, (false), (zb1), H', ⟨zb15⟩, ⟨zb145⟩, ⟨zb146⟩, ⟨zb147⟩⟩))
       ·replace c12 := Bool.eq_false_iff.mpr c12
        subst c12
        have H1 : (if x4_1 = true then (impl_MarksLeast.j1 k1 x3_1 x4_1 l0_1 (l0_1.length : Int) x10_1 true ((rd_T63 l0_1 x10_1).f0) false) else (impl_MarksLeast.j1 k1 x3_1 x4_1 l0_1 (l0_1.length : Int) x10_1 (decide (((rd_T63 l0_1 x10_1).f0) < x3_1)) ((rd_T63 l0_1 x10_1).f0) false)) = some r := by rw [if_neg (show ¬ (false = true) by decide)] at H; exact H
        clear H
        have H := H1
        clear H1
        by_cases c15 : x4_1 = true
        ·subst c15
         have H1 : (impl_MarksLeast.j1 k1 x3_1 true l0_1 (l0_1.length : Int) x10_1 true ((rd_T63 l0_1 x10_1).f0) false) = some r := by rw [if_pos rfl] at H; exact H
         clear H
         have H := H1
         clear H1
         have H' := Aside0.mk H
         clear H
         have hnb16 := NB349_347.out
         have hnc16 := NB347_349.out
         have hcz17_0 : w8.cell? ⟨gb349, 0, none⟩ = some (.int .i64 0) := (blk_cell BK349.out 0).trans rfl
         have hcz17_1 : w8.cell? ⟨gb349, 1, none⟩ = some (.bool false) := (blk_cell BK349.out 1).trans rfl
         have hfz17_0 := blk_frozen BK349.out 0
         have hfz17_1 := blk_frozen BK349.out 1
         go_wp2
         go_meet
         case rel => (first | exact ⟨_, (true), (zb1), H', ⟨zb15⟩, ⟨zb145⟩, ⟨zb146⟩, ⟨zb147⟩⟩ | (rw [← Nbq11.out]; exact ⟨_, (true), (zb1), H', ⟨zb15⟩, ⟨zb145⟩, ⟨zb146⟩, ⟨zb147⟩⟩))
        ·replace c15 := Bool.eq_false_iff.mpr c15
         subst c15
         have H1 : (impl_MarksLeast.j1 k1 x3_1 false l0_1 (l0_1.length : Int) x10_1 (decide (((rd_T63 l0_1 x10_1).f0) < x3_1)) ((rd_T63 l0_1 x10_1).f0) false) = some r := by rw [if_neg (show ¬ (false = true) by decide)] at H; exact H
         clear H
         have H := H1
         clear H1
         have H' := Aside0.mk H
         clear H
         have hnb18 := NB349_347.out
         have hnc18 := NB347_349.out
         have hcz19_0 : w8.cell? ⟨gb349, 0, none⟩ = some (.int .i64 0) := (blk_cell BK349.out 0).trans rfl
         have hcz19_1 : w8.cell? ⟨gb349, 1, none⟩ = some (.bool false) := (blk_cell BK349.out 1).trans rfl
         have hfz19_0 := blk_frozen BK349.out 0
         have hfz19_1 := blk_frozen BK349.out 1
         go_wp2
         go_meet
         case rel => (first | exact ⟨_, (decide (((rd_T63 l0_1 x10_1).f0) < x3_1)), (zb1), H', ⟨zb15⟩, ⟨zb145⟩, ⟨zb146⟩, ⟨zb147⟩⟩ | (rw [← Nbq11.out]; exact ⟨_, (decide (((rd_T63 l0_1 x10_1).f0) < x3_1)), (zb1), H', ⟨zb15⟩, ⟨zb145⟩, ⟨zb146⟩, ⟨zb147⟩⟩))
      case rest =>
       clear HC7
       try clear c1
       try clear q1
       try clear p2
       try clear c3
       try clear p3
       try clear q3
       try clear hx3
       try clear c4
       try clear c4b0
       try clear c5
       try clear c5b0
       try clear c6
       try clear c6b0
       try clear c9
       try clear q11
       try clear c12
       try clear c13
       try clear c15
       try clear c16
       try clear c18
       try clear hcz10_0
       try clear hcz10_1
       try clear hcz14_0
       try clear hcz14_1
       try clear hcz17_0
       try clear hcz17_1
       try clear hcz19_0
       try clear hcz19_1
       try clear hcz3_0
       try clear hcz3_1
       try clear hfz10_0
       try clear hfz10_1
       try clear hfz14_0
       try clear hfz14_1
       try clear hfz17_0
       try clear hfz17_1
       try clear hfz19_0
       try clear hfz19_1
       try clear hfz3_0
       try clear hfz3_1
       try clear hx348_0
       try clear hx348_1
       try clear p2
       try clear p348
       try clear q348
       obtain ⟨kq, x25_6, rfl, HA, HJ6, BK347, BK349, HB⟩ := hcut
       cases kq with
       | zero => exact absurd HA.out (by simp [impl_MarksLeast.j1])
       | succ kj6 =>
        have H := HA.out
        clear HA
        simp only [impl_MarksLeast.j1] at H
        by_cases c20 : x25_6 = true
        ·subst c20
         have H1 : (impl_MarksLeast.l0 kj6 ((rd_T63 l0_1 x10_1).f0) false l0_1 (l0_1.length : Int) (wrap64 (x10_1 + 1))) = some r := by rw [if_pos rfl] at H; exact H
         clear H
         have H := H1
         clear H1
         have H' := Aside0.mk H
         clear H
         have hnb21 := NB349_347.out
         have hnc21 := NB347_349.out
         have hcz22_0 : wc.cell? ⟨gb349, 0, none⟩ = some (.int .i64 ((rd_T63 l0_1 x10_1).f0)) := (blk_cell BK349.out 0).trans rfl
         have hcz22_1 : wc.cell? ⟨gb349, 1, none⟩ = some (.bool ((rd_T63 l0_1 x10_1).f1)) := (blk_cell BK349.out 1).trans rfl
         have hfz22_0 := blk_frozen BK349.out 0
         have hfz22_1 := blk_frozen BK349.out 1
         go_wp2
         go_roundg kj6
         case measure => have := HK1.out; have := HJ6.out; omega
         case rel => (first | exact ⟨(((rd_T63 l0_1 x10_1).f0)), (false), (wrap64 (x10_1 + 1)), (zb1), (zb1), (zb1), H', ⟨zb114⟩, ⟨zb143⟩, ⟨zb147⟩⟩ | (rw [← Nbq11.out]; exact ⟨(((rd_T63 l0_1 x10_1).f0)), (false), (wrap64 (x10_1 + 1)), (zb1), (zb1), (zb1), H', ⟨zb114⟩, ⟨zb143⟩, ⟨zb147⟩⟩))
        ·replace c20 := Bool.eq_false_iff.mpr c20
         subst c20
         have H1 : (impl_MarksLeast.l0 kj6 x3_1 x4_1 l0_1 (l0_1.length : Int) (wrap64 (x10_1 + 1))) = some r := by rw [if_neg (show ¬ (false = true) by decide)] at H; exact H
         clear H
         have H := H1
         clear H1
         have H' := Aside0.mk H
         clear H
         go_wp2
         go_roundg kj6
         case measure => have := HK1.out; have := HJ6.out; omega
         case rel => (first | exact ⟨(x3_1), (x4_1), (wrap64 (x10_1 + 1)), (zb1), (zb1), (zb1), H', ⟨zb114⟩, ⟨zb143⟩, ⟨zb147⟩⟩ | (rw [← Nbq11.out]; exact ⟨(x3_1), (x4_1), (wrap64 (x10_1 + 1)), (zb1), (zb1), (zb1), H', ⟨zb114⟩, ⟨zb143⟩, ⟨zb147⟩⟩))
     ·rw [if_neg c6] at H
      exact absurd H (by simp)
    ·rw [if_neg c5] at H
     exact absurd H (by simp)
   ·rw [if_neg c4] at H
    have c4b0 : decide (x10_1 < (l0_1.length : Int)) = false := decide_eq_false c4
    clear c4
    obtain rfl := Option.some.inj H
    go_wp2
    go_ret
    exact ⟨zb5, zb144⟩

/-! ### impl_MarksLate: function 36 -/
def impl_MarksLate.f (k : Nat) (a0_0 : Int) (l0_1 : List (S63)) (a1 : Int) : Option (Bool) := (impl_areMarks.f k a0_0 l0_1).bind fun t351 => (if t351 = true then (some (decide (a1 < a0_0))) else (some false))
theorem impl_MarksLate.mono : ∀ a0 a1 a2 k, LeO (impl_MarksLate.f k a0 a1 a2) (impl_MarksLate.f (k + 1) a0 a1 a2) := by
 intro a0 a1 a2 k
 unfold impl_MarksLate.f
 repeat' first
   | (with_reducible exact impl_areMarks.mono _ _ _)
   | (with_reducible exact LeO.refl _)
   | (with_reducible exact LeO.none _)
   | (with_reducible refine LeO.ite ?_ ?_)
   | (with_reducible refine LeO.bind ?_ (fun _ => ?_))
   | exact impl_areMarks.mono _ _ _
   | exact LeO.none _
   | refine LeO.ite ?_ ?_
   | refine LeO.bind ?_ (fun _ => ?_)
set_option maxHeartbeats 8000000 in
set_option maxRecDepth 100000 in
theorem impl_MarksLate.calls (k : Nat) (a0_0 : Int) (A0_1 : Option Addr) (c0_1 : Nat) (l0_1 : List (S63)) (a1 : Int) (r : Bool) (w : World) (hr0_1 : Kd.C k63 w A0_1 l0_1.length l0_1) (hc0_1 : l0_1.length ≤ c0_1) (h : impl_MarksLate.f k a0_0 l0_1 a1 = some r) :
  Calls Try.prog 36 #[.agg #[.int .i64 a0_0, .slice A0_1 l0_1.length c0_1], .int .i64 a1] w fun e w' => e = .returned (.bool r) ∧ Below w.heap.size w w' := by
 have hu53 := Try.underlying53
 have HR0_1 := Aside0.mk hr0_1
 have HC0_1 := Aside0.mk hc0_1
 clear hr0_1 hc0_1
 have HB := Aside0.mk (Below.refl w.heap.size w)
 have H : ((impl_areMarks.f k a0_0 l0_1).bind fun t351 => (if t351 = true then (some (decide (a1 < a0_0))) else (some false))) = some r := h
 clear h
 replace H := Option.bind_eq_some_iff.mp H
 obtain ⟨t351, A30, H⟩ := H
 replace H : (if t351 = true then (some (decide (a1 < a0_0))) else (some false)) = some r := H
 have A3 := Aside0.mk A30
 clear A30
 by_cases c4 : t351 = true
 ·subst c4
  have H1 : (some (decide (a1 < a0_0))) = some r := by rw [if_pos rfl] at H; exact H
  clear H
  have H := H1
  clear H1
  obtain rfl := Option.some.inj H
  go_enter Try.func36, Try.ntmps36
  go_wp2_with (first | ((with_reducible refine gate_dst (N := 2) rfl ?_); refine box_event ?hg (N := 2) ?hd (cs := #[.int .i64 a0_0, .slice A0_1 l0_1.length c0_1]) (t := 53) ?hr ?_; (case hd => rfl); (case hg => rfl); (case hr => first | (go_simp; done) | (go_simp; rfl)); intro gb350 hg w5 hbox hb; have n0_ := Aside0.mk (below_step (zb3) hb); have n1_ := Aside0.mk (hbox); have n2_ := Aside0.mk ((by rw [hg]; exact (below_size (zb3)) : w.heap.size ≤ gb350)); have n3_ := Aside0.mk ((by rw [hg]; exact (below_size (zb3)) : w.heap.size ≤ gb350)); clear HB; have HB := n0_; have BK350 := n1_; have GW350 := n2_; have GE350 := n3_; clear n0_ n1_ n2_ n3_; clear hb hbox hg; have hcz6_0 : w5.cell? ⟨gb350, 0, none⟩ = some (.int .i64 a0_0) := (blk_cell BK350.out 0).trans rfl; have hcz6_1 : w5.cell? ⟨gb350, 1, none⟩ = some (.slice A0_1 l0_1.length c0_1) := (blk_cell BK350.out 1).trans rfl; have hfz6_0 := blk_frozen BK350.out 0; have hfz6_1 := blk_frozen BK350.out 1) | ((with_reducible refine gate_callee (f := 69) rfl ?_); refine goesL_ (some 6) rfl rfl Try.func69 (by kernel_rfl) rfl #[.agg #[.int .i64 a0_0, .slice A0_1 l0_1.length c0_1]] rfl (zb10) ?_; (with_reducible refine (impl_areMarks.calls k a0_0 _ _ l0_1 true _ ?side1 ?side2 A3.out).mono ?_); (case side1 => exact zb19); (case side2 => exact HC0_1.out); rintro e w7 ⟨rfl, hb⟩; refine ⟨_, rfl, ?_⟩; have n0_ := Aside0.mk (blk_below (g := gb350) (o := .cells #[.int .i64 a0_0, .slice A0_1 l0_1.length c0_1] 53 (0, 0)) (zb148) hb); have n1_ := Aside0.mk (below_step (zb149) hb); clear BK350; clear HB; have BK350 := n0_; have HB := n1_; clear n0_ n1_; (try clear hb); (try clear hb2); (try clear hk); (try clear hi); have hcz8_0 : w7.cell? ⟨gb350, 0, none⟩ = some (.int .i64 a0_0) := (blk_cell BK350.out 0).trans rfl; have hcz8_1 : w7.cell? ⟨gb350, 1, none⟩ = some (.slice A0_1 l0_1.length c0_1) := (blk_cell BK350.out 1).trans rfl; have hfz8_0 := blk_frozen BK350.out 0; have hfz8_1 := blk_frozen BK350.out 1))
  go_ret
  exact ⟨zb5, zb149⟩
 ·replace c4 := Bool.eq_false_iff.mpr c4
  subst c4
  have H1 : (some false) = some r := by rw [if_neg (show ¬ (false = true) by decide)] at H; exact H
  clear H
  have H := H1
  clear H1
  obtain rfl := Option.some.inj H
  go_enter Try.func36, Try.ntmps36
  go_wp2_with (first | ((with_reducible refine gate_dst (N := 2) rfl ?_); refine box_event ?hg (N := 2) ?hd (cs := #[.int .i64 a0_0, .slice A0_1 l0_1.length c0_1]) (t := 53) ?hr ?_; (case hd => rfl); (case hg => rfl); (case hr => first | (go_simp; done) | (go_simp; rfl)); intro gb350 hg w9 hbox hb; have n0_ := Aside0.mk (below_step (zb3) hb); have n1_ := Aside0.mk (hbox); have n2_ := Aside0.mk ((by rw [hg]; exact (below_size (zb3)) : w.heap.size ≤ gb350)); have n3_ := Aside0.mk ((by rw [hg]; exact (below_size (zb3)) : w.heap.size ≤ gb350)); clear HB; have HB := n0_; have BK350 := n1_; have GW350 := n2_; have GE350 := n3_; clear n0_ n1_ n2_ n3_; clear hb hbox hg; have hcz10_0 : w9.cell? ⟨gb350, 0, none⟩ = some (.int .i64 a0_0) := (blk_cell BK350.out 0).trans rfl; have hcz10_1 : w9.cell? ⟨gb350, 1, none⟩ = some (.slice A0_1 l0_1.length c0_1) := (blk_cell BK350.out 1).trans rfl; have hfz10_0 := blk_frozen BK350.out 0; have hfz10_1 := blk_frozen BK350.out 1) | ((with_reducible refine gate_callee (f := 69) rfl ?_); refine goesL_ (some 6) rfl rfl Try.func69 (by kernel_rfl) rfl #[.agg #[.int .i64 a0_0, .slice A0_1 l0_1.length c0_1]] rfl (zb10) ?_; (with_reducible refine (impl_areMarks.calls k a0_0 _ _ l0_1 false _ ?side1 ?side2 A3.out).mono ?_); (case side1 => exact zb19); (case side2 => exact HC0_1.out); rintro e w11 ⟨rfl, hb⟩; refine ⟨_, rfl, ?_⟩; have n0_ := Aside0.mk (blk_below (g := gb350) (o := .cells #[.int .i64 a0_0, .slice A0_1 l0_1.length c0_1] 53 (0, 0)) (zb148) hb); have n1_ := Aside0.mk (below_step (zb149) hb); clear BK350; clear HB; have BK350 := n0_; have HB := n1_; clear n0_ n1_; (try clear hb); (try clear hb2); (try clear hk); (try clear hi)))
  go_ret
  exact ⟨zb5, zb149⟩

end Go.Proofs.Ytahnodgbfonlhaa.PFnMarks
