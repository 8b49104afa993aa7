/- Contracts of the functions that the law FnMarks reaches, part 10: each says that the call returns what the Lean function of the same name computes. Made by a program of this session. -/
import Derived.Lib.SliceRun
import Derived.Test.YtahnodgbfonlhaaQFnMarksx0
import Derived.Test.YtahnodgbfonlhaaQFnMarksx7
import Derived.Test.YtahnodgbfonlhaaQFnMarksx8
import Derived.Test.YtahnodgbfonlhaaQFnMarksx9
namespace Go.Proofs.Ytahnodgbfonlhaa.PFnMarks
open Go.RowKit Go.Proofs.YtahnodgbfonlhaaW.PrintWords Go.Proofs.YtahnodgbfonlhaaW.PrintLast Go.Proofs.YtahnodgbfonlhaaW.PrintMore
attribute [local go_sem] max2_int min2_int max_two min_two max_three min_three max_four min_four   -- for this text's walks alone
set_option linter.unusedVariables false
set_option linter.unusedSimpArgs false

/-! ### impl_hasMark: function 70 -/
def impl_hasMark.f (k : Nat) (a0_0 : Int) (l0_1 : List (S63)) (a1 : Int) : Option (Bool) := (impl_areMarks.f k a0_0 l0_1).bind fun t313 => (if t313 = true then ((impl_in.f a1 0 (wrap64 ((l0_1.length : Int) - 1))).bind fun t314 => (some t314)) else (some false))
theorem impl_hasMark.mono : ∀ a0 a1 a2 k, LeO (impl_hasMark.f k a0 a1 a2) (impl_hasMark.f (k + 1) a0 a1 a2) := by
 intro a0 a1 a2 k
 unfold impl_hasMark.f
 repeat' first
   | (with_reducible exact impl_areMarks.mono _ _ _)
   | (with_reducible exact LeO.refl _)
   | (with_reducible exact LeO.none _)
   | (with_reducible refine LeO.ite ?_ ?_)
   | (with_reducible refine LeO.bind ?_ (fun _ => ?_))
   | exact impl_areMarks.mono _ _ _
   | exact LeO.none _
   | refine LeO.ite ?_ ?_
   | refine LeO.bind ?_ (fun _ => ?_)
set_option maxHeartbeats 8000000 in
set_option maxRecDepth 100000 in
theorem impl_hasMark.calls (k : Nat) (a0_0 : Int) (A0_1 : Option Addr) (c0_1 : Nat) (l0_1 : List (S63)) (a1 : Int) (r : Bool) (w : World) (hr0_1 : Kd.C k63 w A0_1 l0_1.length l0_1) (hc0_1 : l0_1.length ≤ c0_1) (h : impl_hasMark.f k a0_0 l0_1 a1 = some r) :
  Calls Try.prog 70 #[.agg #[.int .i64 a0_0, .slice A0_1 l0_1.length c0_1], .int .i64 a1] w fun e w' => e = .returned (.bool r) ∧ Below w.heap.size w w' := by
 have hu53 := Try.underlying53
 have HR0_1 := Aside0.mk hr0_1
 have HC0_1 := Aside0.mk hc0_1
 clear hr0_1 hc0_1
 have HB := Aside0.mk (Below.refl w.heap.size w)
 have H : ((impl_areMarks.f k a0_0 l0_1).bind fun t313 => (if t313 = true then ((impl_in.f a1 0 (wrap64 ((l0_1.length : Int) - 1))).bind fun t314 => (some t314)) else (some false))) = some r := h
 clear h
 replace H := Option.bind_eq_some_iff.mp H
 obtain ⟨t313, A30, H⟩ := H
 replace H : (if t313 = true then ((impl_in.f a1 0 (wrap64 ((l0_1.length : Int) - 1))).bind fun t314 => (some t314)) else (some false)) = some r := H
 have A3 := Aside0.mk A30
 clear A30
 by_cases c4 : t313 = true
 ·subst c4
  have H1 : ((impl_in.f a1 0 (wrap64 ((l0_1.length : Int) - 1))).bind fun t314 => (some t314)) = some r := by rw [if_pos rfl] at H; exact H
  clear H
  have H := H1
  clear H1
  replace H := Option.bind_eq_some_iff.mp H
  obtain ⟨t314, A50, H⟩ := H
  replace H : (some t314) = some r := H
  have A5 := Aside0.mk A50
  clear A50
  obtain rfl := Option.some.inj H
  go_enter Try.func70, Try.ntmps70
  go_wp2_with (first | ((with_reducible refine gate_dst (N := 2) rfl ?_); (try (refine gate_guard (by rfl) ?_; dsimp only)); refine box_event ?hg (N := 2) ?hd (cs := #[.int .i64 a0_0, .slice A0_1 l0_1.length c0_1]) (t := 53) ?hr ?_; (case hd => rfl); (case hg => rfl); (case hr => first | (go_simp; done) | (go_simp; rfl)); intro gb312 hg w6 hbox hb; have n0_ := Aside0.mk (below_step (zb3) hb); have n1_ := Aside0.mk (hbox); have n2_ := Aside0.mk ((by rw [hg]; exact (below_size (zb3)) : w.heap.size ≤ gb312)); have n3_ := Aside0.mk ((by rw [hg]; exact (below_size (zb3)) : w.heap.size ≤ gb312)); clear HB; have HB := n0_; have BK312 := n1_; have GW312 := n2_; have GE312 := n3_; clear n0_ n1_ n2_ n3_; clear hb hbox hg; have hcz7_0 : w6.cell? ⟨gb312, 0, none⟩ = some (.int .i64 a0_0) := (blk_cell BK312.out 0).trans rfl; have hcz7_1 : w6.cell? ⟨gb312, 1, none⟩ = some (.slice A0_1 l0_1.length c0_1) := (blk_cell BK312.out 1).trans rfl; have hfz7_0 := blk_frozen BK312.out 0; have hfz7_1 := blk_frozen BK312.out 1) | ((with_reducible refine gate_callee (f := 69) rfl ?_); refine goesL_ (some 6) rfl rfl Try.func69 (by kernel_rfl) rfl #[.agg #[.int .i64 a0_0, .slice A0_1 l0_1.length c0_1]] rfl (zb10) ?_; (with_reducible refine (impl_areMarks.calls k a0_0 _ _ l0_1 true _ ?side1 ?side2 A3.out).mono ?_); (case side1 => exact zb19); (case side2 => exact HC0_1.out); rintro e w8 ⟨rfl, hb⟩; refine ⟨_, rfl, ?_⟩; have n0_ := Aside0.mk (blk_below (g := gb312) (o := .cells #[.int .i64 a0_0, .slice A0_1 l0_1.length c0_1] 53 (0, 0)) (zb119) hb); have n1_ := Aside0.mk (below_step (zb120) hb); clear BK312; clear HB; have BK312 := n0_; have HB := n1_; clear n0_ n1_; (try clear hb); (try clear hb2); (try clear hk); (try clear hi); have hcz9_0 : w8.cell? ⟨gb312, 0, none⟩ = some (.int .i64 a0_0) := (blk_cell BK312.out 0).trans rfl; have hcz9_1 : w8.cell? ⟨gb312, 1, none⟩ = some (.slice A0_1 l0_1.length c0_1) := (blk_cell BK312.out 1).trans rfl; have hfz9_0 := blk_frozen BK312.out 0; have hfz9_1 := blk_frozen BK312.out 1) | (go_at_call 49; (with_reducible refine (impl_in.calls a1 0 (wrap64 ((l0_1.length : Int) - 1)) t314 _ A5.out).mono ?_); rintro e w' ⟨rfl, ⟨nd, rfl⟩⟩))
  go_ret
  exact ⟨zb5, zb120⟩
 ·replace c4 := Bool.eq_false_iff.mpr c4
  subst c4
  have H1 : (some false) = some r := by rw [if_neg (show ¬ (false = true) by decide)] at H; exact H
  clear H
  have H := H1
  clear H1
  obtain rfl := Option.some.inj H
  go_enter Try.func70, Try.ntmps70
  go_wp2_with (first | ((with_reducible refine gate_dst (N := 2) rfl ?_); (try (refine gate_guard (by rfl) ?_; dsimp only)); refine box_event ?hg (N := 2) ?hd (cs := #[.int .i64 a0_0, .slice A0_1 l0_1.length c0_1]) (t := 53) ?hr ?_; (case hd => rfl); (case hg => rfl); (case hr => first | (go_simp; done) | (go_simp; rfl)); intro gb312 hg w10 hbox hb; have n0_ := Aside0.mk (below_step (zb3) hb); have n1_ := Aside0.mk (hbox); have n2_ := Aside0.mk ((by rw [hg]; exact (below_size (zb3)) : w.heap.size ≤ gb312)); have n3_ := Aside0.mk ((by rw [hg]; exact (below_size (zb3)) : w.heap.size ≤ gb312)); clear HB; have HB := n0_; have BK312 := n1_; have GW312 := n2_; have GE312 := n3_; clear n0_ n1_ n2_ n3_; clear hb hbox hg; have hcz11_0 : w10.cell? ⟨gb312, 0, none⟩ = some (.int .i64 a0_0) := (blk_cell BK312.out 0).trans rfl; have hcz11_1 : w10.cell? ⟨gb312, 1, none⟩ = some (.slice A0_1 l0_1.length c0_1) := (blk_cell BK312.out 1).trans rfl; have hfz11_0 := blk_frozen BK312.out 0; have hfz11_1 := blk_frozen BK312.out 1) | ((with_reducible refine gate_callee (f := 69) rfl ?_); refine goesL_ (some 6) rfl rfl Try.func69 (by kernel_rfl) rfl #[.agg #[.int .i64 a0_0, .slice A0_1 l0_1.length c0_1]] rfl (zb10) ?_; (with_reducible refine (impl_areMarks.calls k a0_0 _ _ l0_1 false _ ?side1 ?side2 A3.out).mono ?_); (case side1 => exact zb19); (case side2 => exact HC0_1.out); rintro e w12 ⟨rfl, hb⟩; refine ⟨_, rfl, ?_⟩; have n0_ := Aside0.mk (blk_below (g := gb312) (o := .cells #[.int .i64 a0_0, .slice A0_1 l0_1.length c0_1] 53 (0, 0)) (zb119) hb); have n1_ := Aside0.mk (below_step (zb120) hb); clear BK312; clear HB; have BK312 := n0_; have HB := n1_; clear n0_ n1_; (try clear hb); (try clear hb2); (try clear hk); (try clear hi)))
  go_ret
  exact ⟨zb5, zb120⟩


/-! ### impl_Mark: function 86, by hand -/
/-! ### impl_Mark: function 86 -/
def impl_Mark.f (l0 : List (S63)) : Option ((List (S63))) := (some (([] : List (S63)) : List (S63))).bind fun y315 => (if y315.length + l0.length < 8796093022208 then (some (y315 ++ l0)) else (none))
set_option maxHeartbeats 8000000 in
set_option maxRecDepth 100000 in
theorem impl_Mark.calls (A0 : Option Addr) (c0 : Nat) (l0 : List (S63)) (r : List (S63)) (w : World) (hr0 : Kd.C k63 w A0 l0.length l0) (hc0 : l0.length ≤ c0) (h : impl_Mark.f l0 = some r) :
  Calls Try.prog 86 #[.slice A0 l0.length c0] w fun e w' => ∃ v0_ : Value, e = .returned (v0_) ∧ Kd.R k63 63 w' w.heap.size (fun _ => True) v0_ r ∧ Below w.heap.size w w' := by
 rcases A0 with _ | x0
 ·obtain rfl : l0 = [] := by
   have h1 := hr0.2.2
   rcases l0 with _ | ⟨y, ys⟩
   ·rfl
   ·obtain ⟨ad, e, _⟩ := h1 (by simp)
    cases e
  obtain rfl : [] = r := by simpa [impl_Mark.f] using h
  clear h hr0 hc0
  go_enter Try.func86, Try.ntmps86
  go_wp2_with (simp only [Lib.run_eql_slice_nil _ 51 63 _ _ _ _ _ Try.underlying51, Option.isNone_none])
  go_ret
  exact ⟨_, rfl, Kd.R_nil _ _ _ _ _, by repeat (first | exact Below.refl _ _ | apply below_alloc)⟩
 have HR0 := Aside0.mk hr0
 have HC0 := Aside0.mk hc0
 clear hr0 hc0
 have HB := Aside0.mk (Below.refl w.heap.size w)
 have H : ((some (([] : List (S63)) : List (S63))).bind fun y315 => (if y315.length + l0.length < 8796093022208 then (some (y315 ++ l0)) else (none))) = some r := h
 clear h
 obtain ⟨y315, hy315⟩ : ∃ y_ : List (S63), y_ = (([] : List (S63))) := ⟨_, rfl⟩
 replace H : (if y315.length + l0.length < 8796093022208 then (some (y315 ++ l0)) else (none)) = some r := by first | (rw [hy315]; with_reducible exact H) | (have H2_ := (Option.bind_some _ _).symm.trans H; rw [hy315]; with_reducible exact H2_) | (have H2_ := (Option.bind_some _ _).symm.trans H; with_reducible exact H2_) | with_reducible exact H | (rw [hy315]; exact H) | exact H
 have Ny315 := Aside0.mk hy315
 clear hy315
 by_cases c2 : y315.length + l0.length < 8796093022208
 ·rw [if_pos c2] at H
  have LMc2 := Aside0.mk c2
  clear c2
  obtain ⟨y318, hy318⟩ : ∃ y_ : List (S63), y_ = (y315 ++ l0) := ⟨_, rfl⟩
  replace H : (some y318) = some r := by first | (rw [hy318]; with_reducible exact H) | (have H2_ := (Option.bind_some _ _).symm.trans H; rw [hy318]; with_reducible exact H2_) | (have H2_ := (Option.bind_some _ _).symm.trans H; with_reducible exact H2_) | with_reducible exact H | (rw [hy318]; exact H) | exact H
  have Ny318 := Aside0.mk hy318
  clear hy318
  obtain rfl := Option.some.inj H
  go_enter Try.func86, Try.ntmps86
  go_wp2_with (first | simp only [Lib.run_eql_slice_nil _ 51 63 _ _ _ _ _ Try.underlying51, Option.isNone_some] | ((with_reducible refine gate_dst (N := 5) rfl ?_); refine Kd.R_lit k63 _ 63 ?hg (N := 5) ?hd (xs := ([] : List (S63))) (inner := []) (ok := fun _ => True) (okp := fun _ => True) ?hr ?hp (fun _ hk => hk) trivial (Below.refl _ _) (Nat.le_refl _) (by simp) ?_; (case hd => rfl); (case hg => rfl); (case hr => first | (go_simp; done) | (go_simp; rfl)); (case hp => exact (Reps.none _ _)); intro v316 w3 ho4 hb hg_ hnew_; clear hg_ hnew_; (first | rw [← Ny315.out] at ho4 | (simp only [Int.reduceToNat] at ho4; rw [← Ny315.out] at ho4)); have n0_ := Aside0.mk (Kd.R_lower ho4 (below_size (zb3))); have n1_ := Aside0.mk (below_step (zb3) hb); clear HB; have HO317 := n0_; have HB := n1_; clear n0_ n1_; clear hb ho4) | ((with_reducible refine gate_builtin (b := .append) (xs := #[.tmp 5, .tmp 6]) rfl ?_); at_builtin; refine Kd.R_append_rows k63 (w0 := w) w.heap.size rfl (.tmp 5) (.tmp 6) 51 63 (.agg #[(.int .i64 0), (.bool false)]) 16 rfl Try.underlying51 info63 rfl (by decide) (by omega) v316 y315 l0 _ _ _ (fun _ => True) (fun _ => False) rfl rfl ?aO ?aR (fun _ _ h => h) (fun _ h => h.elim) ?aF ?aB ?aS ?aL ?_; (case aR => exact zb121); (case aB => exact (zb3)); (case aF => exact (fun _ _ => trivial)); (case aO => exact (by (with_reducible repeat (first | apply Kd.R_alloc | apply Kd.R_drewN | apply Kd.R_drew)); exact HO317.out)); (case aS => exact (below_size (zb3))); (case aL => have := LMc2.out; omega); intro v319 w5 ho hb hg hat; rw [← Ny318.out] at ho; have n0_ := Aside0.mk (hb); have n1_ := Aside0.mk (ho); clear HB; clear HO317; have HB := n0_; have HO320 := n1_; clear n0_ n1_; clear ho hb hg hat))
  go_ret
  exact ⟨_, zb5, by (with_reducible repeat (first | apply Kd.R_alloc | apply Kd.R_drewN | apply Kd.R_drew)); exact HO320.out, zb3⟩
 ·rw [if_neg c2] at H
  exact absurd H (by simp)


/-! ### impl_Marks_with: function 71 -/
def impl_Marks_with.f (k : Nat) (a0_0 : Int) (l0_1 : List (S63)) (a1 : Int) (a2_0 : Int) (a2_1 : Bool) : Option (Int × (List (S63))) := (impl_Mark.f l0_1).bind fun t324 => (if 0 ≤ a1 then (if a1 < (t324.length : Int) then ((some (t324.set (a1 : Int).toNat (⟨a2_0, a2_1⟩ : S63) : List (S63))).bind fun y328 => ((impl_Marks_least.f k a0_0 y328).bind fun t329 => (some (mx a0_0 t329, y328)))) else (none)) else (none))
theorem impl_Marks_with.mono : ∀ a0 a1 a2 a3 a4 k, LeO (impl_Marks_with.f k a0 a1 a2 a3 a4) (impl_Marks_with.f (k + 1) a0 a1 a2 a3 a4) := by
 intro a0 a1 a2 a3 a4 k
 unfold impl_Marks_with.f
 repeat' first
   | (with_reducible exact impl_Marks_least.mono _ _ _)
   | (with_reducible exact LeO.refl _)
   | (with_reducible exact LeO.none _)
   | (with_reducible refine LeO.ite ?_ ?_)
   | (with_reducible refine LeO.bind ?_ (fun _ => ?_))
   | exact impl_Marks_least.mono _ _ _
   | exact LeO.none _
   | refine LeO.ite ?_ ?_
   | refine LeO.bind ?_ (fun _ => ?_)
def impl_Marks_with.T1 : Bool × List (List Nat × List Nat) := (true, [([], []), ([0], [0]), ([], []), ([2], [2]), ([3], [3]), ([1, 4], [1, 4]), ([], []), ([6, 5, 4, 0, 1, 2, 3, 4, 5, 6], [5, 6])])
def impl_Marks_with.B1 : List Nat := [0, 1, 0, 4, 12, 31, 0, 127]
theorem impl_Marks_with.tab1 : rtab .any (opsOf Try.f71 1) = impl_Marks_with.T1 := by kernel_rfl
theorem impl_Marks_with.bits1 : waitsOk impl_Marks_with.T1.2 impl_Marks_with.B1 = true := by kernel_rfl
set_option maxHeartbeats 8000000 in
set_option maxRecDepth 100000 in
theorem impl_Marks_with.calls (k : Nat) (a0_0 : Int) (A0_1 : Option Addr) (c0_1 : Nat) (l0_1 : List (S63)) (a1 : Int) (a2_0 : Int) (a2_1 : Bool) (r1 : Int) (r2 : List (S63)) (w : World) (hr0_1 : Kd.C k63 w A0_1 l0_1.length l0_1) (hc0_1 : l0_1.length ≤ c0_1) (h : impl_Marks_with.f k a0_0 l0_1 a1 a2_0 a2_1 = some (r1, r2)) :
  Calls Try.prog 71 #[.agg #[.int .i64 a0_0, .slice A0_1 l0_1.length c0_1], .int .i64 a1, .agg #[.int .i64 a2_0, .bool a2_1]] w fun e w' => ∃ v1_ : Value, e = .returned (.agg #[.int .i64 r1, v1_]) ∧ Kd.R k63 63 w' w.heap.size (fun _ => True) v1_ r2 ∧ Below w.heap.size w w' := by
 have hu53 := Try.underlying53
 have hu63 := Try.underlying63
 have HR0_1 := Aside0.mk hr0_1
 have HC0_1 := Aside0.mk hc0_1
 clear hr0_1 hc0_1
 have HB := Aside0.mk (Below.refl w.heap.size w)
 have H : ((impl_Mark.f l0_1).bind fun t324 => (if 0 ≤ a1 then (if a1 < (t324.length : Int) then ((some (t324.set (a1 : Int).toNat (⟨a2_0, a2_1⟩ : S63) : List (S63))).bind fun y328 => ((impl_Marks_least.f k a0_0 y328).bind fun t329 => (some (mx a0_0 t329, y328)))) else (none)) else (none))) = some (r1, r2) := h
 clear h
 replace H := Option.bind_eq_some_iff.mp H
 obtain ⟨t324, A40, H⟩ := H
 replace H : (if 0 ≤ a1 then (if a1 < (t324.length : Int) then ((some (t324.set (a1 : Int).toNat (⟨a2_0, a2_1⟩ : S63) : List (S63))).bind fun y328 => ((impl_Marks_least.f k a0_0 y328).bind fun t329 => (some (mx a0_0 t329, y328)))) else (none)) else (none)) = some (r1, r2) := H
 have A4 := Aside0.mk A40
 clear A40
 by_cases c5 : 0 ≤ a1
 ·rw [if_pos c5] at H
  have c5b0 : decide (0 ≤ a1) = true := decide_eq_true c5
  clear c5
  by_cases c6 : a1 < (t324.length : Int)
  ·rw [if_pos c6] at H
   have c6b0 : decide (a1 < (t324.length : Int)) = true := decide_eq_true c6
   clear c6
   obtain ⟨y328, hy328⟩ : ∃ y_ : List (S63), y_ = (t324.set (a1 : Int).toNat (⟨a2_0, a2_1⟩ : S63)) := ⟨_, rfl⟩
   replace H : ((impl_Marks_least.f k a0_0 y328).bind fun t329 => (some (mx a0_0 t329, y328))) = some (r1, r2) := by first | (rw [hy328]; with_reducible exact H) | (have H2_ := (Option.bind_some _ _).symm.trans H; rw [hy328]; with_reducible exact H2_) | (have H2_ := (Option.bind_some _ _).symm.trans H; with_reducible exact H2_) | with_reducible exact H | (rw [hy328]; exact H) | exact H
   have Ny328 := Aside0.mk hy328
   clear hy328
   replace H := Option.bind_eq_some_iff.mp H
   obtain ⟨t329, A80, H⟩ := H
   replace H : (some (mx a0_0 t329, y328)) = some (r1, r2) := H
   have A8 := Aside0.mk A80
   clear A80
   obtain ⟨ji9, hji9⟩ : ∃ j_ : Int, (mx a0_0 t329) = j_ := ⟨_, rfl⟩
   replace H : (some (ji9, y328)) = some (r1, r2) := by first | (rw [hji9] at H; exact H) | (simp only [hji9] at H ⊢; exact H)
   (try rw [hji9] at A4)
   (try rw [hji9] at A8)
   have hji9_ : (if a0_0 < t329 then t329 else a0_0) = ji9 := hji9
   simp only [Option.some.injEq, Prod.mk.injEq] at H
   obtain ⟨rfl, rfl⟩ := H
   go_enter Try.func71, Try.ntmps71
   try go_wp2_with (first | ((with_reducible refine gate_dst (N := 3) rfl ?_); refine box_event ?hg (N := 3) ?hd (cs := #[.int .i64 a0_0, .slice A0_1 l0_1.length c0_1]) (t := 53) ?hr ?_; (case hd => rfl); (case hg => rfl); (case hr => first | (go_simp; done) | (go_simp; rfl)); intro gb321 hg w10 hbox hb; have n0_ := Aside0.mk (below_step (zb3) hb); have n1_ := Aside0.mk (hbox); have n2_ := Aside0.mk ((by rw [hg]; exact (below_size (zb3)) : w.heap.size ≤ gb321)); have n3_ := Aside0.mk ((by rw [hg]; exact (below_size (zb3)) : w.heap.size ≤ gb321)); clear HB; have HB := n0_; have BK321 := n1_; have GW321 := n2_; have GE321 := n3_; clear n0_ n1_ n2_ n3_; clear hb hbox hg) | ((with_reducible refine gate_dst (N := 5) rfl ?_); refine box_event ?hg (N := 5) ?hd (cs := #[.int .i64 a2_0, .bool a2_1]) (t := 63) ?hr ?_; (case hd => rfl); (case hg => rfl); (case hr => first | (go_simp; done) | (go_simp; rfl)); intro gb322 hg w11 hbox hb; have n0_ := Aside0.mk (blk_below (g := gb321) (o := .cells #[.int .i64 a0_0, .slice A0_1 l0_1.length c0_1] 53 (0, 0)) (zb122) hb); have n1_ := Aside0.mk (below_step (zb123) hb); have n2_ := Aside0.mk (hbox); have n3_ := Aside0.mk ((by rw [hg]; exact (below_size (zb123)) : w.heap.size ≤ gb322)); have n4_ := Aside0.mk ((by rw [hg]; exact (below_size (zb123)) : w.heap.size ≤ gb322)); have n5_ := Aside0.mk ((by rw [hg]; exact Nat.ne_of_lt (blk_lt (g := gb321) (o := .cells #[.int .i64 a0_0, .slice A0_1 l0_1.length c0_1] 53 (0, 0)) (zb122)) : gb321 ≠ gb322)); have n6_ := Aside0.mk ((by rw [hg]; exact Nat.ne_of_gt (blk_lt (g := gb321) (o := .cells #[.int .i64 a0_0, .slice A0_1 l0_1.length c0_1] 53 (0, 0)) (zb122)) : gb322 ≠ gb321)); clear BK321; clear HB; have BK321 := n0_; have HB := n1_; have BK322 := n2_; have GW322 := n3_; have GE322 := n4_; have NB321_322 := n5_; have NB322_321 := n6_; clear n0_ n1_ n2_ n3_ n4_ n5_ n6_; clear hb hbox hg) | ((with_reducible refine gate_dst (N := 6) rfl ?_); refine box_event ?hg (N := 6) ?hd (cs := #[.int .i64 0, .slice none 0 0]) (t := 53) ?hr ?_; (case hd => rfl); (case hg => rfl); (case hr => first | (go_simp; done) | (go_simp; rfl)); intro gb323 hg w12 hbox hb; have n0_ := Aside0.mk (blk_below (g := gb321) (o := .cells #[.int .i64 a0_0, .slice A0_1 l0_1.length c0_1] 53 (0, 0)) (zb122) hb); have n1_ := Aside0.mk (blk_below (g := gb322) (o := .cells #[.int .i64 a2_0, .bool a2_1] 63 (0, 0)) (zb124) hb); have n2_ := Aside0.mk (below_step (zb125) hb); have n3_ := Aside0.mk (hbox); have n4_ := Aside0.mk ((by rw [hg]; exact (below_size (zb125)) : w.heap.size ≤ gb323)); have n5_ := Aside0.mk ((by rw [hg]; exact (below_size (zb125)) : w.heap.size ≤ gb323)); have n6_ := Aside0.mk ((by rw [hg]; exact Nat.ne_of_lt (blk_lt (g := gb321) (o := .cells #[.int .i64 a0_0, .slice A0_1 l0_1.length c0_1] 53 (0, 0)) (zb122)) : gb321 ≠ gb323)); have n7_ := Aside0.mk ((by rw [hg]; exact Nat.ne_of_gt (blk_lt (g := gb321) (o := .cells #[.int .i64 a0_0, .slice A0_1 l0_1.length c0_1] 53 (0, 0)) (zb122)) : gb323 ≠ gb321)); have n8_ := Aside0.mk ((by rw [hg]; exact Nat.ne_of_lt (blk_lt (g := gb322) (o := .cells #[.int .i64 a2_0, .bool a2_1] 63 (0, 0)) (zb124)) : gb322 ≠ gb323)); have n9_ := Aside0.mk ((by rw [hg]; exact Nat.ne_of_gt (blk_lt (g := gb322) (o := .cells #[.int .i64 a2_0, .bool a2_1] 63 (0, 0)) (zb124)) : gb323 ≠ gb322)); clear BK321; clear BK322; clear HB; have BK321 := n0_; have BK322 := n1_; have HB := n2_; have BK323 := n3_; have GW323 := n4_; have GE323 := n5_; have NB321_323 := n6_; have NB323_321 := n7_; have NB322_323 := n8_; have NB323_322 := n9_; clear n0_ n1_ n2_ n3_ n4_ n5_ n6_ n7_ n8_ n9_; clear hb hbox hg))
   have n0_ := Aside0.mk (blk_drew BK321.out)
   have n1_ := Aside0.mk (blk_drew BK322.out)
   have n2_ := Aside0.mk (blk_drew BK323.out)
   have n3_ := Aside0.mk (below_drew1 HB.out)
   clear BK321
   clear BK322
   clear BK323
   clear HB
   have BK321 := n0_
   have BK322 := n1_
   have BK323 := n2_
   have HB := n3_
   clear n0_ n1_ n2_ n3_
   refine start_ (n := 8) (S := fun w' => w'.cell? ⟨gb321, 0, none⟩ = some (.int .i64 a0_0) ∧ w'.cell? ⟨gb321, 1, none⟩ = some (.slice A0_1 l0_1.length c0_1)) (ds := []) #[false, false, false, false, false, false, false, false] (by kernel_rfl) rfl rfl ⟨(blk_cell BK321.out 0).trans rfl, (blk_cell BK321.out 1).trans rfl⟩ (fun hHeld => ?_); refine with_tabW impl_Marks_with.tab1 impl_Marks_with.bits1 (fun HT_ HW_ => ?_)
   generalize w12.drew = w13 at BK321 BK322 BK323 HB hHeld ⊢
   refine pz 0 8 (bz 8 1) rfl rfl ?_
   refine pz 2 10 (bz 8 5) rfl rfl ?_
   refine tz 1 9 (bz 8 7) rfl rfl (Or.inl ⟨by rfl, by rintro w' ⟨s0, s1⟩; go_simp; with_reducible rfl⟩) hHeld ?_
   refine tz 3 11 (bz 8 15) rfl rfl (Or.inl ⟨by rfl, by rintro w' ⟨s0, s1⟩; go_simp; with_reducible rfl⟩) hHeld ?_
   refine join_ (σ := Value × Nat) 1 #[true, true, true, true, true, true, true, false] (fun s_ => [(12, s_.1), (7, .pointer (some ⟨s_.2, 0, none⟩)), (13, .agg #[.int .i64 a0_0, s_.1])]) (fun s_ w' => (w'.cell? ⟨gb321, 0, none⟩ = some (.int .i64 a0_0) ∧ w'.cell? ⟨gb321, 1, none⟩ = some (.slice A0_1 l0_1.length c0_1)) ∧ (Kd.R k63 63 w' w.heap.size (fun k_ => k_ ≠ gb322) s_.1 t324) ∧ (w'.heap[gb321]? = some (.cells #[.int .i64 a0_0, .slice A0_1 l0_1.length c0_1] 53 (0, 0))) ∧ (w'.heap[gb322]? = some (.cells #[.int .i64 a2_0, .bool a2_1] 63 (0, 0))) ∧ (w'.heap[gb323]? = some (.cells #[.int .i64 0, .slice none 0 0] 53 (0, 0))) ∧ (w'.heap[s_.2]? = some (.cells #[.int .i64 0, .slice none 0 0] 53 (0, 0))) ∧ (w.heap.size ≤ s_.2) ∧ (w.heap.size ≤ s_.2) ∧ (gb321 ≠ s_.2) ∧ (s_.2 ≠ gb321) ∧ (gb322 ≠ s_.2) ∧ (s_.2 ≠ gb322) ∧ (gb323 ≠ s_.2) ∧ (s_.2 ≠ gb323) ∧ (Below w.heap.size w w')) ?_ ?_
   rotate_left
   ·intro hCont
    refine two_ (i := 4) (j := 6) (Ni := some 12) (Nj := some 7) #[true, true, true, true, true, false, false, false] #[true, true, true, true, false, false, true, false] rfl rfl rfl rfl (two_of HT_.out (by kernel_rfl)) (by decide) (by decide) (fun K hK => ?_) (fun K hK => ?_)
    ·skip
     refine goes_ Try.func86 (by kernel_rfl) rfl #[.slice A0_1 l0_1.length c0_1] (by rfl) rfl rfl (zb10) ?_
     with_reducible refine (impl_Mark.calls _ _ l0_1 t324 _ ?side1 ?side2 A4.out).mono ?_
     (case side1 => exact zb19)
     (case side2 => exact HC0_1.out)
     rintro e w14 ⟨v325, rfl, ho0, hb⟩
     refine ⟨_, rfl, ?_⟩
     have n0_ := Aside0.mk (Kd.R_lower (Kd.R_newB ho0 (g := gb322) (o := .cells #[.int .i64 a2_0, .bool a2_1] 63 (0, 0)) (zb124)) (below_size (zb126)))
     have n1_ := Aside0.mk (blk_below (g := gb321) (o := .cells #[.int .i64 a0_0, .slice A0_1 l0_1.length c0_1] 53 (0, 0)) (zb122) hb)
     have n2_ := Aside0.mk (blk_below (g := gb322) (o := .cells #[.int .i64 a2_0, .bool a2_1] 63 (0, 0)) (zb124) hb)
     have n3_ := Aside0.mk (blk_below (g := gb323) (o := .cells #[.int .i64 0, .slice none 0 0] 53 (0, 0)) (zb127) hb)
     have n4_ := Aside0.mk (below_step (zb126) hb)
     clear BK321
     clear BK322
     clear BK323
     clear HB
     have HO326 := n0_
     have BK321 := n1_
     have BK322 := n2_
     have BK323 := n3_
     have HB := n4_
     clear n0_ n1_ n2_ n3_ n4_
     (try clear hb)
     (try clear hb2)
     (try clear hk)
     (try clear hi)
     (try clear ho0)
     obtain ⟨Ao15, co15, eo15⟩ := Kd.R_slice HO326.out
     (first | subst eo15 | (injection eo15 with f1_ f2_ f3_; have f4_ := f1_.symm; have f5_ := f3_.symm; clear f1_ f2_ f3_; subst f4_; subst f5_))
     refine hK.out _ _ ⟨(blk_cell BK321.out 0).trans rfl, (blk_cell BK321.out 1).trans rfl⟩ (fun hHeld => ?_)
     clear hK K
     refine norm_ (a' := ?_) ?_ ?_
     rotate_left
     ·show Act.put _ (some 12) _ = _
      simp only [Act.put, List.setIfInBounds_toArray, List.set_cons_zero, List.set_cons_succ, i64_w, i32_w]
      rfl
     refine pz 5 13 (bz 8 63) rfl rfl ?_
     refine one_ (i := 6) (N := some 7) (bz 8 127) rfl rfl (one_of HT_.out (by kernel_rfl)) (by decide) (fun K hK => ?_)
     refine box_step ?hg (N := 7) ?hd (cs := #[.int .i64 0, .slice none 0 0]) (t := 53) ?hr ?_; (case hd => rfl); (case hg => rfl); (case hr => first | (go_simp; done) | (go_simp; rfl))
     intro gb327 hg w16 hbox hb
     have n0_ := Aside0.mk (Kd.R_below (zb128) hb)
     have n1_ := Aside0.mk (blk_below (g := gb321) (o := .cells #[.int .i64 a0_0, .slice A0_1 l0_1.length c0_1] 53 (0, 0)) (zb122) hb)
     have n2_ := Aside0.mk (blk_below (g := gb322) (o := .cells #[.int .i64 a2_0, .bool a2_1] 63 (0, 0)) (zb124) hb)
     have n3_ := Aside0.mk (blk_below (g := gb323) (o := .cells #[.int .i64 0, .slice none 0 0] 53 (0, 0)) (zb127) hb)
     have n4_ := Aside0.mk (below_step (zb126) hb)
     have n5_ := Aside0.mk (hbox)
     have n6_ := Aside0.mk ((by rw [hg]; exact (below_size (zb126)) : w.heap.size ≤ gb327))
     have n7_ := Aside0.mk ((by rw [hg]; exact (below_size (zb126)) : w.heap.size ≤ gb327))
     have n8_ := Aside0.mk ((by rw [hg]; exact Nat.ne_of_lt (blk_lt (g := gb321) (o := .cells #[.int .i64 a0_0, .slice A0_1 l0_1.length c0_1] 53 (0, 0)) (zb122)) : gb321 ≠ gb327))
     have n9_ := Aside0.mk ((by rw [hg]; exact Nat.ne_of_gt (blk_lt (g := gb321) (o := .cells #[.int .i64 a0_0, .slice A0_1 l0_1.length c0_1] 53 (0, 0)) (zb122)) : gb327 ≠ gb321))
     have n10_ := Aside0.mk ((by rw [hg]; exact Nat.ne_of_lt (blk_lt (g := gb322) (o := .cells #[.int .i64 a2_0, .bool a2_1] 63 (0, 0)) (zb124)) : gb322 ≠ gb327))
     have n11_ := Aside0.mk ((by rw [hg]; exact Nat.ne_of_gt (blk_lt (g := gb322) (o := .cells #[.int .i64 a2_0, .bool a2_1] 63 (0, 0)) (zb124)) : gb327 ≠ gb322))
     have n12_ := Aside0.mk ((by rw [hg]; exact Nat.ne_of_lt (blk_lt (g := gb323) (o := .cells #[.int .i64 0, .slice none 0 0] 53 (0, 0)) (zb127)) : gb323 ≠ gb327))
     have n13_ := Aside0.mk ((by rw [hg]; exact Nat.ne_of_gt (blk_lt (g := gb323) (o := .cells #[.int .i64 0, .slice none 0 0] 53 (0, 0)) (zb127)) : gb327 ≠ gb323))
     clear HO326
     clear BK321
     clear BK322
     clear BK323
     clear HB
     have HO326 := n0_
     have BK321 := n1_
     have BK322 := n2_
     have BK323 := n3_
     have HB := n4_
     have BK327 := n5_
     have GW327 := n6_
     have GE327 := n7_
     have NB321_327 := n8_
     have NB327_321 := n9_
     have NB322_327 := n10_
     have NB327_322 := n11_
     have NB323_327 := n12_
     have NB327_323 := n13_
     clear n0_ n1_ n2_ n3_ n4_ n5_ n6_ n7_ n8_ n9_ n10_ n11_ n12_ n13_
     clear hb hbox hg
     refine hK.out _ _ ⟨(blk_cell BK321.out 0).trans rfl, (blk_cell BK321.out 1).trans rfl⟩ (fun hHeld => ?_)
     clear hK K
     refine norm_ (a' := ?_) ?_ ?_
     rotate_left
     ·show Act.put _ (some 7) _ = _
      simp only [Act.put, List.setIfInBounds_toArray, List.set_cons_zero, List.set_cons_succ, i64_w, i32_w]
      rfl
     exact norm_ (zb31) (hCont (.slice Ao15 t324.length co15, gb327) _ ⟨hHeld, (zb129), (zb122), (zb124), (zb127), (zb130), GW327.out, GE327.out, NB321_327.out, NB327_321.out, NB322_327.out, NB327_322.out, NB323_327.out, NB327_323.out, (zb131)⟩)
    ·skip
     refine box_step ?hg (N := 7) ?hd (cs := #[.int .i64 0, .slice none 0 0]) (t := 53) ?hr ?_; (case hd => rfl); (case hg => rfl); (case hr => first | (go_simp; done) | (go_simp; rfl))
     intro gb327 hg w14 hbox hb
     have n0_ := Aside0.mk (blk_below (g := gb321) (o := .cells #[.int .i64 a0_0, .slice A0_1 l0_1.length c0_1] 53 (0, 0)) (zb122) hb)
     have n1_ := Aside0.mk (blk_below (g := gb322) (o := .cells #[.int .i64 a2_0, .bool a2_1] 63 (0, 0)) (zb124) hb)
     have n2_ := Aside0.mk (blk_below (g := gb323) (o := .cells #[.int .i64 0, .slice none 0 0] 53 (0, 0)) (zb127) hb)
     have n3_ := Aside0.mk (below_step (zb126) hb)
     have n4_ := Aside0.mk (hbox)
     have n5_ := Aside0.mk ((by rw [hg]; exact (below_size (zb126)) : w.heap.size ≤ gb327))
     have n6_ := Aside0.mk ((by rw [hg]; exact (below_size (zb126)) : w.heap.size ≤ gb327))
     have n7_ := Aside0.mk ((by rw [hg]; exact Nat.ne_of_lt (blk_lt (g := gb321) (o := .cells #[.int .i64 a0_0, .slice A0_1 l0_1.length c0_1] 53 (0, 0)) (zb122)) : gb321 ≠ gb327))
     have n8_ := Aside0.mk ((by rw [hg]; exact Nat.ne_of_gt (blk_lt (g := gb321) (o := .cells #[.int .i64 a0_0, .slice A0_1 l0_1.length c0_1] 53 (0, 0)) (zb122)) : gb327 ≠ gb321))
     have n9_ := Aside0.mk ((by rw [hg]; exact Nat.ne_of_lt (blk_lt (g := gb322) (o := .cells #[.int .i64 a2_0, .bool a2_1] 63 (0, 0)) (zb124)) : gb322 ≠ gb327))
     have n10_ := Aside0.mk ((by rw [hg]; exact Nat.ne_of_gt (blk_lt (g := gb322) (o := .cells #[.int .i64 a2_0, .bool a2_1] 63 (0, 0)) (zb124)) : gb327 ≠ gb322))
     have n11_ := Aside0.mk ((by rw [hg]; exact Nat.ne_of_lt (blk_lt (g := gb323) (o := .cells #[.int .i64 0, .slice none 0 0] 53 (0, 0)) (zb127)) : gb323 ≠ gb327))
     have n12_ := Aside0.mk ((by rw [hg]; exact Nat.ne_of_gt (blk_lt (g := gb323) (o := .cells #[.int .i64 0, .slice none 0 0] 53 (0, 0)) (zb127)) : gb327 ≠ gb323))
     clear BK321
     clear BK322
     clear BK323
     clear HB
     have BK321 := n0_
     have BK322 := n1_
     have BK323 := n2_
     have HB := n3_
     have BK327 := n4_
     have GW327 := n5_
     have GE327 := n6_
     have NB321_327 := n7_
     have NB327_321 := n8_
     have NB322_327 := n9_
     have NB327_322 := n10_
     have NB323_327 := n11_
     have NB327_323 := n12_
     clear n0_ n1_ n2_ n3_ n4_ n5_ n6_ n7_ n8_ n9_ n10_ n11_ n12_
     clear hb hbox hg
     refine hK.out _ _ ⟨(blk_cell BK321.out 0).trans rfl, (blk_cell BK321.out 1).trans rfl⟩ (fun hHeld => ?_)
     clear hK K
     refine norm_ (a' := ?_) ?_ ?_
     rotate_left
     ·show Act.put _ (some 7) _ = _
      simp only [Act.put, List.setIfInBounds_toArray, List.set_cons_zero, List.set_cons_succ, i64_w, i32_w]
      rfl
     refine one_ (i := 4) (N := some 12) (bz 8 95) rfl rfl (one_of HT_.out (by kernel_rfl)) (by decide) (fun K hK => ?_)
     refine goes_ Try.func86 (by kernel_rfl) rfl #[.slice A0_1 l0_1.length c0_1] (by rfl) rfl rfl (zb10) ?_
     with_reducible refine (impl_Mark.calls _ _ l0_1 t324 _ ?side1 ?side2 A4.out).mono ?_
     (case side1 => exact zb19)
     (case side2 => exact HC0_1.out)
     rintro e w15 ⟨v325, rfl, ho0, hb⟩
     refine ⟨_, rfl, ?_⟩
     have n0_ := Aside0.mk (Kd.R_lower (Kd.R_newB ho0 (g := gb322) (o := .cells #[.int .i64 a2_0, .bool a2_1] 63 (0, 0)) (zb124)) (below_size (zb131)))
     have n1_ := Aside0.mk (blk_below (g := gb321) (o := .cells #[.int .i64 a0_0, .slice A0_1 l0_1.length c0_1] 53 (0, 0)) (zb122) hb)
     have n2_ := Aside0.mk (blk_below (g := gb322) (o := .cells #[.int .i64 a2_0, .bool a2_1] 63 (0, 0)) (zb124) hb)
     have n3_ := Aside0.mk (blk_below (g := gb323) (o := .cells #[.int .i64 0, .slice none 0 0] 53 (0, 0)) (zb127) hb)
     have n4_ := Aside0.mk (blk_below (g := gb327) (o := .cells #[.int .i64 0, .slice none 0 0] 53 (0, 0)) (zb130) hb)
     have n5_ := Aside0.mk (below_step (zb131) hb)
     clear BK321
     clear BK322
     clear BK323
     clear BK327
     clear HB
     have HO326 := n0_
     have BK321 := n1_
     have BK322 := n2_
     have BK323 := n3_
     have BK327 := n4_
     have HB := n5_
     clear n0_ n1_ n2_ n3_ n4_ n5_
     (try clear hb)
     (try clear hb2)
     (try clear hk)
     (try clear hi)
     (try clear ho0)
     obtain ⟨Ao16, co16, eo16⟩ := Kd.R_slice HO326.out
     (first | subst eo16 | (injection eo16 with f1_ f2_ f3_; have f4_ := f1_.symm; have f5_ := f3_.symm; clear f1_ f2_ f3_; subst f4_; subst f5_))
     refine hK.out _ _ ⟨(blk_cell BK321.out 0).trans rfl, (blk_cell BK321.out 1).trans rfl⟩ (fun hHeld => ?_)
     clear hK K
     refine norm_ (a' := ?_) ?_ ?_
     rotate_left
     ·show Act.put _ (some 12) _ = _
      simp only [Act.put, List.setIfInBounds_toArray, List.set_cons_zero, List.set_cons_succ, i64_w, i32_w]
      rfl
     refine pz 5 13 (bz 8 127) rfl rfl ?_
     exact norm_ (zb31) (hCont (.slice Ao16 t324.length co16, gb327) _ ⟨hHeld, (zb129), (zb122), (zb124), (zb127), (zb130), GW327.out, GE327.out, NB321_327.out, NB327_321.out, NB322_327.out, NB327_322.out, NB323_327.out, NB327_323.out, (zb131)⟩)
   rintro ⟨v325, gb327⟩ w17 ⟨hS_, h0_, h1_, h2_, h3_, h4_, h5_, h6_, h7_, h8_, h9_, h10_, h11_, h12_, h13_⟩
   have n0_ : Aside0 (Kd.R k63 63 w17 w.heap.size (fun k_ => k_ ≠ gb322) v325 t324) := ⟨h0_⟩
   have n1_ : Aside0 (w17.heap[gb321]? = some (.cells #[.int .i64 a0_0, .slice A0_1 l0_1.length c0_1] 53 (0, 0))) := ⟨h1_⟩
   have n2_ : Aside0 (w17.heap[gb322]? = some (.cells #[.int .i64 a2_0, .bool a2_1] 63 (0, 0))) := ⟨h2_⟩
   have n3_ : Aside0 (w17.heap[gb323]? = some (.cells #[.int .i64 0, .slice none 0 0] 53 (0, 0))) := ⟨h3_⟩
   have n4_ : Aside0 (w17.heap[gb327]? = some (.cells #[.int .i64 0, .slice none 0 0] 53 (0, 0))) := ⟨h4_⟩
   have n5_ : Aside0 (w.heap.size ≤ gb327) := ⟨h5_⟩
   have n6_ : Aside0 (w.heap.size ≤ gb327) := ⟨h6_⟩
   have n7_ : Aside0 (gb321 ≠ gb327) := ⟨h7_⟩
   have n8_ : Aside0 (gb327 ≠ gb321) := ⟨h8_⟩
   have n9_ : Aside0 (gb322 ≠ gb327) := ⟨h9_⟩
   have n10_ : Aside0 (gb327 ≠ gb322) := ⟨h10_⟩
   have n11_ : Aside0 (gb323 ≠ gb327) := ⟨h11_⟩
   have n12_ : Aside0 (gb327 ≠ gb323) := ⟨h12_⟩
   have n13_ : Aside0 (Below w.heap.size w w17) := ⟨h13_⟩
   clear BK321
   clear BK322
   clear BK323
   clear HB
   clear h0_ h1_ h2_ h3_ h4_ h5_ h6_ h7_ h8_ h9_ h10_ h11_ h12_ h13_
   have HO326 := n0_
   have BK321 := n1_
   have BK322 := n2_
   have BK323 := n3_
   have BK327 := n4_
   have GW327 := n5_
   have GE327 := n6_
   have NB321_327 := n7_
   have NB327_321 := n8_
   have NB322_327 := n9_
   have NB327_322 := n10_
   have NB323_327 := n11_
   have NB327_323 := n12_
   have HB := n13_
   clear n0_ n1_ n2_ n3_ n4_ n5_ n6_ n7_ n8_ n9_ n10_ n11_ n12_ n13_
   have hHeld : w17.cell? ⟨gb321, 0, none⟩ = some (.int .i64 a0_0) ∧ w17.cell? ⟨gb321, 1, none⟩ = some (.slice A0_1 l0_1.length c0_1) := hS_
   obtain ⟨Ao18, co18, eo18⟩ := Kd.R_slice HO326.out
   (first | subst eo18 | (injection eo18 with f1_ f2_ f3_; have f4_ := f1_.symm; have f5_ := f3_.symm; clear f1_ f2_ f3_; subst f4_; subst f5_))
   refine norm_ (a' := ?_) ?_ ?_
   rotate_left
   ·simp only [putAll, Act.put, List.setIfInBounds_toArray, List.set_cons_zero, List.set_cons_succ]
    rfl
   refine one_ (i := 7) (N := none) (bz 8 255) rfl rfl (one_of HT_.out (by kernel_rfl)) (by decide) (fun K hK => ?_)
   have hs19 : w17.cell? ⟨gb327, 0, none⟩ = some (.int .i64 0) := (blk_cell BK327.out 0).trans rfl
   have hfs19 := blk_frozen BK327.out 0
   have hns19_0 := NB321_327.out
   have hns19_1 := NB322_327.out
   have hns19_2 := NB323_327.out
   have hms19_0 := NB327_321.out
   have hms19_1 := NB327_322.out
   have hms19_2 := NB327_323.out
   have hs20 : w17.cell? ⟨gb327, 1, none⟩ = some (.slice none 0 0) := (blk_cell BK327.out 1).trans rfl
   have hfs20 := blk_frozen BK327.out 1
   have hns20_0 := NB321_327.out
   have hns20_1 := NB322_327.out
   have hns20_2 := NB323_327.out
   have hms20_0 := NB327_321.out
   have hms20_1 := NB327_322.out
   have hms20_2 := NB327_323.out
   refine skip_ (w1 := ?_) (by rfl) rfl ?_ ?_
   rotate_left
   ·go_simp
    rfl
   refine hK.out _ _ ⟨((cell_far (p := ⟨gb327, _, none⟩) NB321_327.out _).trans (((cell_far (p := ⟨gb327, _, none⟩) NB321_327.out _).trans (hHeld.1)))), ((cell_far (p := ⟨gb327, _, none⟩) NB321_327.out _).trans (((cell_far (p := ⟨gb327, _, none⟩) NB321_327.out _).trans (hHeld.2))))⟩ (fun hHeld => ?_)
   clear hK K
   refine done_ (done_of HT_.out (by kernel_rfl)) ?_
   have n0_ : Aside0 (Kd.R k63 63 ((w17.setCell ⟨gb327, 0, none⟩ (.int .i64 a0_0)).setCell ⟨gb327, 1, none⟩ (.slice Ao18 t324.length co18)) w.heap.size (fun k_ => k_ ≠ gb322) (.slice Ao18 t324.length co18) t324) := ⟨by (with_reducible repeat (first | apply Kd.R_alloc | apply Kd.R_drewN | apply Kd.R_drew)); exact Kd.R_mono (Kd.R_far (p := ⟨gb327, 1, none⟩) (Kd.R_far (p := ⟨gb327, 0, none⟩) (Kd.R_types HO326.out BK327.out (by decide)) (fun _ hk => hk.2) (.int .i64 a0_0)) (fun _ hk => hk.2) (.slice Ao18 t324.length co18)) (fun _ hk => hk.1)⟩
   have n1_ : Aside0 (((w17.setCell ⟨gb327, 0, none⟩ (.int .i64 a0_0)).setCell ⟨gb327, 1, none⟩ (.slice Ao18 t324.length co18)).heap[gb321]? = some (.cells #[.int .i64 a0_0, .slice A0_1 l0_1.length c0_1] 53 (0, 0))) := ⟨by (with_reducible repeat (first | refine blk_drewN ?_ _ | refine blk_drew ?_ | refine blk_alloc ?_ _)); refine blk_far ?_ NB321_327.out _; (with_reducible repeat (first | refine blk_drewN ?_ _ | refine blk_drew ?_ | refine blk_alloc ?_ _)); refine blk_far ?_ NB321_327.out _; (with_reducible repeat (first | refine blk_drewN ?_ _ | refine blk_drew ?_ | refine blk_alloc ?_ _)); exact BK321.out⟩
   have n2_ : Aside0 (((w17.setCell ⟨gb327, 0, none⟩ (.int .i64 a0_0)).setCell ⟨gb327, 1, none⟩ (.slice Ao18 t324.length co18)).heap[gb322]? = some (.cells #[.int .i64 a2_0, .bool a2_1] 63 (0, 0))) := ⟨by (with_reducible repeat (first | refine blk_drewN ?_ _ | refine blk_drew ?_ | refine blk_alloc ?_ _)); refine blk_far ?_ NB322_327.out _; (with_reducible repeat (first | refine blk_drewN ?_ _ | refine blk_drew ?_ | refine blk_alloc ?_ _)); refine blk_far ?_ NB322_327.out _; (with_reducible repeat (first | refine blk_drewN ?_ _ | refine blk_drew ?_ | refine blk_alloc ?_ _)); exact BK322.out⟩
   have n3_ : Aside0 (((w17.setCell ⟨gb327, 0, none⟩ (.int .i64 a0_0)).setCell ⟨gb327, 1, none⟩ (.slice Ao18 t324.length co18)).heap[gb323]? = some (.cells #[.int .i64 0, .slice none 0 0] 53 (0, 0))) := ⟨by (with_reducible repeat (first | refine blk_drewN ?_ _ | refine blk_drew ?_ | refine blk_alloc ?_ _)); refine blk_far ?_ NB323_327.out _; (with_reducible repeat (first | refine blk_drewN ?_ _ | refine blk_drew ?_ | refine blk_alloc ?_ _)); refine blk_far ?_ NB323_327.out _; (with_reducible repeat (first | refine blk_drewN ?_ _ | refine blk_drew ?_ | refine blk_alloc ?_ _)); exact BK323.out⟩
   have n4_ : Aside0 (((w17.setCell ⟨gb327, 0, none⟩ (.int .i64 a0_0)).setCell ⟨gb327, 1, none⟩ (.slice Ao18 t324.length co18)).heap[gb327]? = some (.cells #[.int .i64 a0_0, .slice Ao18 t324.length co18] 53 (0, 0))) := ⟨by (with_reducible repeat (first | refine blk_drewN ?_ _ | refine blk_drew ?_ | refine blk_alloc ?_ _)); refine blk_put (cs := #[.int .i64 a0_0, .slice none 0 0]) ?_ 1 _ rfl; (with_reducible repeat (first | refine blk_drewN ?_ _ | refine blk_drew ?_ | refine blk_alloc ?_ _)); refine blk_put (cs := #[.int .i64 0, .slice none 0 0]) ?_ 0 _ rfl; (with_reducible repeat (first | refine blk_drewN ?_ _ | refine blk_drew ?_ | refine blk_alloc ?_ _)); exact BK327.out⟩
   have n5_ : Aside0 (Below w.heap.size w ((w17.setCell ⟨gb327, 0, none⟩ (.int .i64 a0_0)).setCell ⟨gb327, 1, none⟩ (.slice Ao18 t324.length co18))) := ⟨zb131⟩
   (try clear HO326)
   (try clear BK321)
   (try clear BK322)
   (try clear BK323)
   (try clear BK327)
   (try clear HB)
   generalize ((w17.setCell ⟨gb327, 0, none⟩ (.int .i64 a0_0)).setCell ⟨gb327, 1, none⟩ (.slice Ao18 t324.length co18)) = w21 at n0_ n1_ n2_ n3_ n4_ n5_ ⊢
   have HO326 := n0_
   have BK321 := n1_
   have BK322 := n2_
   have BK323 := n3_
   have BK327 := n4_
   have HB := n5_
   clear n0_ n1_ n2_ n3_ n4_ n5_
   have hnb22 := NB327_321.out
   have hnc22 := NB321_327.out
   have hnb23 := NB327_322.out
   have hnc23 := NB322_327.out
   have hnb24 := NB327_323.out
   have hnc24 := NB323_327.out
   have hcz25_0 : w21.cell? ⟨gb327, 0, none⟩ = some (.int .i64 a0_0) := (blk_cell BK327.out 0).trans rfl
   have hcz25_1 : w21.cell? ⟨gb327, 1, none⟩ = some (.slice Ao18 t324.length co18) := (blk_cell BK327.out 1).trans rfl
   have hfz25_0 := blk_frozen BK327.out 0
   have hfz25_1 := blk_frozen BK327.out 1
   have hnb26 := NB322_321.out
   have hnc26 := NB321_322.out
   have hnb27 := NB322_323.out
   have hnc27 := NB323_322.out
   have hcz28_0 : w21.cell? ⟨gb322, 0, none⟩ = some (.int .i64 a2_0) := (blk_cell BK322.out 0).trans rfl
   have hcz28_1 : w21.cell? ⟨gb322, 1, none⟩ = some (.bool a2_1) := (blk_cell BK322.out 1).trans rfl
   have hfz28_0 := blk_frozen BK322.out 0
   have hfz28_1 := blk_frozen BK322.out 1
   have p7 : 0 ≤ (a1 : Int) := of_decide_eq_true (zb9)
   have q7 : (a1 : Int) < ((t324.length : Int) : Int) := of_decide_eq_true (zb9)
   obtain ⟨go7, co7, eo7, gb7, gl7, cl7, HG7⟩ := Kd.R_form HO326.out (by omega)
   (first | cases eo7 | (injection eo7 with ea_ en_ ec_; (first | subst ea_ | (injection ea_ with ea_; subst ea_)); subst ec_; clear en_))
   have GB7 := Aside0.mk gb7
   have GG7 := Aside0.mk HG7
   clear gb7 gl7 HG7
   obtain ⟨ce7, hcl7, hM7, hcc7, hfr7⟩ := Kd.R_elem HO326.out z63 (a1 : Int) p7 q7
   obtain rfl := k63_openM hM7
   have hx7_0 : w21.cell? ⟨go7, (a1 : Int).toNat * 2, none⟩ = some (.int .i64 ((rd_T63 t324 a1).f0)) := hcc7 0 _ rfl
   have hx7_1 : w21.cell? ⟨go7, (a1 : Int).toNat * 2 + 1, none⟩ = some (.bool ((rd_T63 t324 a1).f1)) := hcc7 1 _ rfl
   have hf7_0 : w21.frozen? ⟨go7, (a1 : Int).toNat * 2, none⟩ = false := hfr7 0
   have hf7_1 : w21.frozen? ⟨go7, (a1 : Int).toNat * 2 + 1, none⟩ = false := hfr7 1
   clear hcl7 hcc7 hfr7 hM7
   replace p7 := eq_true p7
   replace q7 := eq_true q7
   have HX29 := Aside0.mk (show Kd.R k63 63 w21 w.heap.size (fun k_ => k_ ≠ gb322) (.slice (some ⟨go7, 0, none⟩) t324.length co18) t324 from (zb128))
   obtain ⟨ce29, hcl29, hM29, hcc29, hfr29⟩ := Kd.R_elem HX29.out z63 (a1 : Int) (of_decide_eq_true (zb9)) (by have h_ : (a1 : Int) < ((t324.length : Int) : Int) := of_decide_eq_true (zb9); first | exact h_ | (have e_ := (Kd.R_reads' HO326.out).1; omega) | simpa using h_)
   obtain rfl := k63_openM hM29
   have HP29 := Kd.R_seg HX29.out (a1 : Int) (of_decide_eq_true (zb9)) (by have h_ : (a1 : Int) < ((t324.length : Int) : Int) := of_decide_eq_true (zb9); first | exact h_ | (have e_ := (Kd.R_reads' HO326.out).1; omega) | simpa using h_) (seg := [.int .i64 a2_0, .bool a2_1]) (j := 0) hcl29 hcc29 (show 2 ≤ 2 from by decide) (x' := (⟨a2_0, a2_1⟩ : S63)) (k63_mkM _ _ _ (⟨a2_0, a2_1⟩ : S63) ) (fun _ hk => hk)
   have hx29_0 := hcc29 0 _ rfl
   (try simp only [show (k63).sz = 2 from rfl, Nat.mul_one, Nat.add_zero] at hx29_0)
   have hf29_0 := hfr29 0
   (try simp only [show (k63).sz = 2 from rfl, Nat.mul_one, Nat.add_zero] at hf29_0)
   have hx29_1 := hcc29 1 _ rfl
   (try simp only [show (k63).sz = 2 from rfl, Nat.mul_one, Nat.add_zero] at hx29_1)
   have hf29_1 := hfr29 1
   (try simp only [show (k63).sz = 2 from rfl, Nat.mul_one, Nat.add_zero] at hf29_1)
   clear hcl29 hcc29 hfr29 hM29
   try go_wp2_with (first | ((with_reducible refine gate_store (t := 63) (p := 18) rfl ?_); refine store_event (t := 63) (p := 18) (v := ?vo_w30) (w1 := ((w21.setCell ⟨go7, (a1 : Int).toNat * 2, none⟩ (.int .i64 a2_0)).setCell ⟨go7, (a1 : Int).toNat * 2 + 1, none⟩ (.bool a2_1))) ?hg ?ho ?hn ?hr ?_; (case ho => rfl); (case hg => rfl); (case hn => rfl); (case hr => first | (go_simp; done) | (go_simp; rfl)); intro w30 hw; have hg : w21.grownBy w30 (some go7) := (by rw [hw]; exact HP29.2); have hp_ : Kd.R k63 63 w30 w.heap.size (fun k_ => k_ ≠ gb322) (.slice (some ⟨go7, 0, none⟩) t324.length co18) y328 := (by rw [hw, Ny328.out]; exact HP29.1); clear HP29; have n0_ := Aside0.mk (blk_grown (g := gb321) (o := .cells #[.int .i64 a0_0, .slice A0_1 l0_1.length c0_1] 53 (0, 0)) (zb122) hg (Kd.R_ne HO326.out BK321.out (by decide))); have n1_ := Aside0.mk (blk_grown (g := gb322) (o := .cells #[.int .i64 a2_0, .bool a2_1] 63 (0, 0)) (zb124) hg (Kd.R_away HO326.out (fun _ hk => hk))); have n2_ := Aside0.mk (blk_grown (g := gb323) (o := .cells #[.int .i64 0, .slice none 0 0] 53 (0, 0)) (zb127) hg (Kd.R_ne HO326.out BK323.out (by decide))); have n3_ := Aside0.mk (hp_); have n4_ := Aside0.mk (blk_grown (g := gb327) (o := .cells #[.int .i64 a0_0, .slice (some ⟨go7, 0, none⟩) t324.length co18] 53 (0, 0)) (zb130) hg (Kd.R_ne HO326.out BK327.out (by decide))); have n5_ := Aside0.mk ((by rw [hw]; exact below_set (below_set (HB.out) GB7.out) GB7.out : Below w.heap.size w w30)); clear BK321; clear BK322; clear BK323; clear HO326; clear BK327; clear HB; have BK321 := n0_; have BK322 := n1_; have BK323 := n2_; have HO326 := n3_; have BK327 := n4_; have HB := n5_; clear n0_ n1_ n2_ n3_ n4_ n5_; clear hg hw hp_))
   have n0_ := Aside0.mk (Kd.R_drew HO326.out)
   have n1_ := Aside0.mk (blk_drew BK321.out)
   have n2_ := Aside0.mk (blk_drew BK322.out)
   have n3_ := Aside0.mk (blk_drew BK323.out)
   have n4_ := Aside0.mk (blk_drew BK327.out)
   have n5_ := Aside0.mk (below_drew1 HB.out)
   clear HO326
   clear BK321
   clear BK322
   clear BK323
   clear BK327
   clear HB
   have HO326 := n0_
   have BK321 := n1_
   have BK322 := n2_
   have BK323 := n3_
   have BK327 := n4_
   have HB := n5_
   clear n0_ n1_ n2_ n3_ n4_ n5_
   refine start_ (n := 7) (S := fun w' => w'.cell? ⟨gb327, 0, none⟩ = some (.int .i64 a0_0) ∧ w'.cell? ⟨gb327, 1, none⟩ = some (.slice (some ⟨go7, 0, none⟩) t324.length co18)) (ds := [6]) #[false, false, false, false, false, false, false] (by kernel_rfl) rfl rfl ⟨(blk_cell BK327.out 0).trans rfl, (blk_cell BK327.out 1).trans rfl⟩ (fun hHeld => ?_)
   generalize w30.drew = w31 at HO326 BK321 BK322 BK323 BK327 HB hHeld ⊢
   refine pure_ (i := 0) (N := some 19) (v := ?_) (a' := ?_) #[true, false, false, false, false, false, false] rfl rfl (by kernel_rfl) (fun _ _ _ h => h) (Or.inl ⟨by rfl, ?_⟩) ?_ ?_
   rotate_left
   ·intro w'
    go_simp
    with_reducible rfl
   rotate_left
   ·simp only [Act.put, List.setIfInBounds_toArray, List.set_cons_zero, List.set_cons_succ, i64_w, i32_w]
    rfl
   refine take_ (i := 1) (N := some 20) (v := ?_) (a' := ?_) #[true, true, false, false, false, false, false] rfl rfl (by kernel_rfl) (fun _ _ _ h => h) (Or.inl ⟨by rfl, ?_⟩) hHeld ?_ ?_
   rotate_left
   ·rintro w' ⟨s0, s1⟩
    go_simp
    with_reducible rfl
   rotate_left
   ·simp only [Act.put, List.setIfInBounds_toArray, List.set_cons_zero, List.set_cons_succ, i64_w, i32_w]
    rfl
   refine take_ (i := 2) (N := some 21) (v := ?_) (a' := ?_) #[true, true, true, false, false, false, false] rfl rfl (by kernel_rfl) (fun _ _ _ h => h) (Or.inl ⟨by rfl, ?_⟩) hHeld ?_ ?_
   rotate_left
   ·rintro w' ⟨s0, s1⟩
    go_simp
    with_reducible rfl
   rotate_left
   ·simp only [Act.put, List.setIfInBounds_toArray, List.set_cons_zero, List.set_cons_succ, i64_w, i32_w]
    rfl
   refine one_ (i := 3) (N := some 22) #[true, true, true, true, false, false, false] rfl rfl (by kernel_rfl) (by decide) (fun K hK => ?_)
   refine goes_ Try.func85 (by kernel_rfl) rfl #[.agg #[.int .i64 a0_0, .slice (some ⟨go7, 0, none⟩) y328.length co18]] (by rfl) rfl rfl (by (try simp only [List.map_toArray, List.map_cons, List.map_nil]); first | done | (rw [show y328.length = t324.length from (Kd.R_reads' HO326.out).1.symm] <;> rfl) | rfl | (simp only [List.length_drop, List.length_take]; rfl)) ?_
   with_reducible refine (impl_Marks_least.calls k a0_0 _ _ y328 t329 _ ?side1 ?side2 A8.out).mono ?_
   (case side1 => repeat (first | exact (Kd.R_reads' HO326.out).2.2 | (with_reducible refine Kd.C_alloc ?_ _) | (with_reducible refine Kd.C_drewN ?_ _) | (with_reducible refine Kd.C_drew ?_)))
   (case side2 => rw [show y328.length = t324.length from (Kd.R_reads' HO326.out).1.symm]; exact (Kd.R_reads' HO326.out).2.1)
   rintro e w32 ⟨rfl, hb⟩
   refine ⟨_, rfl, ?_⟩
   have n0_ := Aside0.mk (Kd.R_below (zb128) hb)
   have n1_ := Aside0.mk (blk_below (g := gb321) (o := .cells #[.int .i64 a0_0, .slice A0_1 l0_1.length c0_1] 53 (0, 0)) (zb122) hb)
   have n2_ := Aside0.mk (blk_below (g := gb322) (o := .cells #[.int .i64 a2_0, .bool a2_1] 63 (0, 0)) (zb124) hb)
   have n3_ := Aside0.mk (blk_below (g := gb323) (o := .cells #[.int .i64 0, .slice none 0 0] 53 (0, 0)) (zb127) hb)
   have n4_ := Aside0.mk (blk_below (g := gb327) (o := .cells #[.int .i64 a0_0, .slice (some ⟨go7, 0, none⟩) t324.length co18] 53 (0, 0)) (zb130) hb)
   have n5_ := Aside0.mk (below_step (zb131) hb)
   clear HO326
   clear BK321
   clear BK322
   clear BK323
   clear BK327
   clear HB
   have HO326 := n0_
   have BK321 := n1_
   have BK322 := n2_
   have BK323 := n3_
   have BK327 := n4_
   have HB := n5_
   clear n0_ n1_ n2_ n3_ n4_ n5_
   (try clear hb)
   (try clear hb2)
   (try clear hk)
   (try clear hi)
   refine hK.out _ _ ⟨(blk_cell BK327.out 0).trans rfl, (blk_cell BK327.out 1).trans rfl⟩ (fun hHeld => ?_)
   clear hK K
   refine norm_ (a' := ?_) ?_ ?_
   rotate_left
   ·show Act.put _ (some 22) _ = _
    simp only [Act.put, List.setIfInBounds_toArray, List.set_cons_zero, List.set_cons_succ, i64_w, i32_w]
    rfl
   refine pure_ (i := 4) (N := some 23) (v := ?_) (a' := ?_) #[true, true, true, true, true, false, false] rfl rfl (by kernel_rfl) (fun _ _ _ h => h) (Or.inl ⟨by rfl, ?_⟩) ?_ ?_
   rotate_left
   ·intro w'
    go_simp
    with_reducible rfl
   rotate_left
   ·simp only [Act.put, List.setIfInBounds_toArray, List.set_cons_zero, List.set_cons_succ, i64_w, i32_w]
    rfl
   refine pure_ (i := 5) (N := some 24) (v := ?_) (a' := ?_) #[true, true, true, true, true, true, false] rfl rfl (by kernel_rfl) (fun _ _ _ h => h) (Or.inl ⟨by rfl, ?_⟩) ?_ ?_
   rotate_left
   ·intro w'
    go_simp
    with_reducible rfl
   rotate_left
   ·simp only [Act.put, List.setIfInBounds_toArray, List.set_cons_zero, List.set_cons_succ, i64_w, i32_w]
    rfl
   refine last_ (i := 6) (N := none) #[true, true, true, true, true, true, true] rfl rfl (by kernel_rfl) (by decide) (fun K hK => ?_)
   have hs33 : w32.cell? ⟨gb327, 0, none⟩ = some (.int .i64 a0_0) := (blk_cell BK327.out 0).trans rfl
   have hfs33 := blk_frozen BK327.out 0
   have hns33_0 := NB321_327.out
   have hns33_1 := NB322_327.out
   have hns33_2 := NB323_327.out
   have hms33_0 := NB327_321.out
   have hms33_1 := NB327_322.out
   have hms33_2 := NB327_323.out
   refine skip_ (w1 := ?_) (by rfl) rfl ?_ ?_
   rotate_left
   ·go_simp
    rfl
   refine hK.out _ _ ?_
   clear hK K
   refine done_ (by kernel_rfl) ?_
   have hcz34_0 : w32.cell? ⟨gb327, 0, none⟩ = some (.int .i64 a0_0) := (blk_cell BK327.out 0).trans rfl
   have hcz34_1 : w32.cell? ⟨gb327, 1, none⟩ = some (.slice (some ⟨go7, 0, none⟩) t324.length co18) := (blk_cell BK327.out 1).trans rfl
   have hfz34_0 := blk_frozen BK327.out 0
   have hfz34_1 := blk_frozen BK327.out 1
   have hnb35 := NB323_321.out
   have hnc35 := NB321_323.out
   have hcz36_0 : w32.cell? ⟨gb323, 0, none⟩ = some (.int .i64 0) := (blk_cell BK323.out 0).trans rfl
   have hcz36_1 : w32.cell? ⟨gb323, 1, none⟩ = some (.slice none 0 0) := (blk_cell BK323.out 1).trans rfl
   have hfz36_0 := blk_frozen BK323.out 0
   have hfz36_1 := blk_frozen BK323.out 1
   try go_wp2
   refine bodyPost_ret (results_cell_row rfl _ _ gb323 53 #[.int .i64 ji9, .slice (some ⟨go7, 0, none⟩) t324.length co18] (0, 0) _ rfl (by (with_reducible repeat (first | refine blk_drewN ?_ _ | refine blk_drew ?_ | refine blk_alloc ?_ _)); refine blk_put (cs := #[.int .i64 ji9, .slice none 0 0]) ?_ 1 _ rfl; (with_reducible repeat (first | refine blk_drewN ?_ _ | refine blk_drew ?_ | refine blk_alloc ?_ _)); refine blk_put (cs := #[.int .i64 0, .slice none 0 0]) ?_ 0 _ rfl; (with_reducible repeat (first | refine blk_drewN ?_ _ | refine blk_drew ?_ | refine blk_alloc ?_ _)); refine blk_far ?_ NB323_327.out _; (with_reducible repeat (first | refine blk_drewN ?_ _ | refine blk_drew ?_ | refine blk_alloc ?_ _)); exact BK323.out) Try.underlying53 rfl (by kernel_rfl)) rfl ?_
   exact ⟨_, zb36, by (with_reducible repeat (first | apply Kd.R_alloc | apply Kd.R_drewN | apply Kd.R_drew)); exact Kd.R_mono (Kd.R_far (p := ⟨gb323, 1, none⟩) (Kd.R_far (p := ⟨gb323, 0, none⟩) (Kd.R_far (p := ⟨gb327, 0, none⟩) (Kd.R_types (Kd.R_types HO326.out BK327.out (by decide)) BK323.out (by decide)) (fun _ hk => hk.1.2) (.int .i64 ji9)) (fun _ hk => hk.2) (.int .i64 ji9)) (fun _ hk => hk.2) (.slice (some ⟨go7, 0, none⟩) t324.length co18)) (fun _ hk => trivial), zb131⟩
  ·rw [if_neg c6] at H
   exact absurd H (by simp)
 ·rw [if_neg c5] at H
  exact absurd H (by simp)

/-! ### impl_MarkSet: function 31 -/
def impl_MarkSet.j0 : Nat → Int → Int → Bool → Int → List (S63) → Option (Int × (List (S63)) × Int)
 | 0, _, _, _, _, _ => none
 | k + 1, x1, x2, x8, x331000, x331001 => if x8 = true then (some (0, ([] : List (S63)), 1)) else (if 0 ≤ x1 then (if x1 < (x331001.length : Int) then (if x2 < ((rd_T63 x331001 x1).f0) then (some (0, ([] : List (S63)), 2)) else ((impl_Marks_with.f k x331000 x331001 x1 x2 false).bind fun bt335 => (some (bt335.1, bt335.2, 0)))) else (none)) else (none))
def impl_MarkSet.f (k : Nat) (a0_0 : Int) (l0_1 : List (S63)) (a1 : Int) (a2 : Int) : Option (Int × (List (S63)) × Int) := (impl_hasMark.f k a0_0 l0_1 a1).bind fun t332 => (if t332 = true then ((impl_isTime.f a2).bind fun t333 => (impl_MarkSet.j0 k a1 a2 (!t333) a0_0 l0_1)) else (impl_MarkSet.j0 k a1 a2 true a0_0 l0_1))
theorem impl_MarkSet.mono_l : ∀ k, (∀ y0 y1 y2 y3 y4, LeO (impl_MarkSet.j0 k y0 y1 y2 y3 y4) (impl_MarkSet.j0 (k + 1) y0 y1 y2 y3 y4))
 | 0 => fun _ _ _ _ _ r h => by simp [impl_MarkSet.j0] at h
 | k + 1 => by
  have ih0 := impl_MarkSet.mono_l k
  ·intro y0 y1 y2 y3 y4
   unfold impl_MarkSet.j0
   repeat' first
   | (with_reducible exact ih0 _ _ _ _ _)
   | (with_reducible exact impl_Marks_with.mono _ _ _ _ _ _)
   | (with_reducible exact impl_hasMark.mono _ _ _ _)
   | (with_reducible exact LeO.refl _)
   | (with_reducible exact LeO.none _)
   | (with_reducible refine LeO.ite ?_ ?_)
   | (with_reducible refine LeO.bind ?_ (fun _ => ?_))
   | exact ih0 _ _ _ _ _
   | exact impl_Marks_with.mono _ _ _ _ _ _
   | exact impl_hasMark.mono _ _ _ _
   | exact LeO.none _
   | refine LeO.ite ?_ ?_
   | refine LeO.bind ?_ (fun _ => ?_)
theorem impl_MarkSet.mono : ∀ a0 a1 a2 a3 k, LeO (impl_MarkSet.f k a0 a1 a2 a3) (impl_MarkSet.f (k + 1) a0 a1 a2 a3) := by
 intro a0 a1 a2 a3 k
 have ih0 := impl_MarkSet.mono_l k
 unfold impl_MarkSet.f
 repeat' first
   | (with_reducible exact ih0 _ _ _ _ _)
   | (with_reducible exact impl_Marks_with.mono _ _ _ _ _ _)
   | (with_reducible exact impl_hasMark.mono _ _ _ _)
   | (with_reducible exact LeO.refl _)
   | (with_reducible exact LeO.none _)
   | (with_reducible refine LeO.ite ?_ ?_)
   | (with_reducible refine LeO.bind ?_ (fun _ => ?_))
   | exact ih0 _ _ _ _ _
   | exact impl_Marks_with.mono _ _ _ _ _ _
   | exact impl_hasMark.mono _ _ _ _
   | exact LeO.none _
   | refine LeO.ite ?_ ?_
   | refine LeO.bind ?_ (fun _ => ?_)
set_option maxHeartbeats 8000000 in
set_option maxRecDepth 100000 in
theorem impl_MarkSet.calls (k : Nat) (a0_0 : Int) (A0_1 : Option Addr) (c0_1 : Nat) (l0_1 : List (S63)) (a1 : Int) (a2 : Int) (r1 : Int) (r2 : List (S63)) (r3 : Int) (w : World) (hr0_1 : Kd.C k63 w A0_1 l0_1.length l0_1) (hc0_1 : l0_1.length ≤ c0_1) (h : impl_MarkSet.f k a0_0 l0_1 a1 a2 = some (r1, r2, r3)) :
  Calls Try.prog 31 #[.agg #[.int .i64 a0_0, .slice A0_1 l0_1.length c0_1], .int .i64 a1, .int .i64 a2] w fun e w' => ∃ v1_ : Value, e = .returned (.tuple #[.agg #[.int .i64 r1, v1_], .int .i64 r3]) ∧ Kd.R k63 63 w' w.heap.size (fun _ => True) v1_ r2 ∧ Below w.heap.size w w' := by
 have hu53 := Try.underlying53
 have hu63 := Try.underlying63
 have HR0_1 := Aside0.mk hr0_1
 have HC0_1 := Aside0.mk hc0_1
 clear hr0_1 hc0_1
 have HB := Aside0.mk (Below.refl w.heap.size w)
 have H : ((impl_hasMark.f k a0_0 l0_1 a1).bind fun t332 => (if t332 = true then ((impl_isTime.f a2).bind fun t333 => (impl_MarkSet.j0 k a1 a2 (!t333) a0_0 l0_1)) else (impl_MarkSet.j0 k a1 a2 true a0_0 l0_1))) = some (r1, r2, r3) := h
 clear h
 have HC4 := Aside0.mk H
 clear H
 go_enter Try.func31, Try.ntmps31
 go_upto_region 1 with (first | ((with_reducible refine gate_dst (N := 3) rfl ?_); refine box_event ?hg (N := 3) ?hd (cs := #[.int .i64 a0_0, .slice A0_1 l0_1.length c0_1]) (t := 53) ?hr ?_; (case hd => rfl); (case hg => rfl); (case hr => first | (go_simp; done) | (go_simp; rfl)); intro gb330 hg w5 hbox hb; have n0_ := Aside0.mk (below_step (zb3) hb); have n1_ := Aside0.mk (hbox); have n2_ := Aside0.mk ((by rw [hg]; exact (below_size (zb3)) : w.heap.size ≤ gb330)); have n3_ := Aside0.mk ((by rw [hg]; exact (below_size (zb3)) : w.heap.size ≤ gb330)); clear HB; have HB := n0_; have BK330 := n1_; have GW330 := n2_; have GE330 := n3_; clear n0_ n1_ n2_ n3_; clear hb hbox hg) | ((with_reducible refine gate_dst (N := 6) rfl ?_); refine box_event ?hg (N := 6) ?hd (cs := #[.int .i64 0, .slice none 0 0]) (t := 53) ?hr ?_; (case hd => rfl); (case hg => rfl); (case hr => first | (go_simp; done) | (go_simp; rfl)); intro gb331 hg w6 hbox hb; have n0_ := Aside0.mk (blk_below (g := gb330) (o := .cells #[.int .i64 a0_0, .slice A0_1 l0_1.length c0_1] 53 (0, 0)) (zb132) hb); have n1_ := Aside0.mk (below_step (zb133) hb); have n2_ := Aside0.mk (hbox); have n3_ := Aside0.mk ((by rw [hg]; exact (below_size (zb133)) : w.heap.size ≤ gb331)); have n4_ := Aside0.mk ((by rw [hg]; exact (below_size (zb133)) : w.heap.size ≤ gb331)); have n5_ := Aside0.mk ((by rw [hg]; exact Nat.ne_of_lt (blk_lt (g := gb330) (o := .cells #[.int .i64 a0_0, .slice A0_1 l0_1.length c0_1] 53 (0, 0)) (zb132)) : gb330 ≠ gb331)); have n6_ := Aside0.mk ((by rw [hg]; exact Nat.ne_of_gt (blk_lt (g := gb330) (o := .cells #[.int .i64 a0_0, .slice A0_1 l0_1.length c0_1] 53 (0, 0)) (zb132)) : gb331 ≠ gb330)); clear BK330; clear HB; have BK330 := n0_; have HB := n1_; have BK331 := n2_; have GW331 := n3_; have GE331 := n4_; have NB330_331 := n5_; have NB331_330 := n6_; clear n0_ n1_ n2_ n3_ n4_ n5_ n6_; clear hb hbox hg))
 (try simp only [Act.put, List.setIfInBounds_toArray, List.set_cons_zero, List.set_cons_succ])
 go_cut [8] (fun v8 wc => ∃ (kq : Nat) (x8_3 : Bool), v8 = .bool x8_3 ∧ Aside0 (impl_MarkSet.j0 kq a1 a2 x8_3 a0_0 l0_1 = some (r1, r2, r3)) ∧ Aside0 (kq ≤ k) ∧ Aside0 (wc.heap[gb330]? = some (.cells #[.int .i64 a0_0, (.slice A0_1 l0_1.length c0_1)] 53 (0, 0))) ∧ Aside0 (wc.heap[gb331]? = some (.cells #[.int .i64 0, (.slice none 0 0)] 53 (0, 0))) ∧ Aside0 (Below w.heap.size w wc))
 case first =>
  have H := HC4.out
  clear HC4
  replace H := Option.bind_eq_some_iff.mp H
  obtain ⟨t332, A70, H⟩ := H
  replace H : (if t332 = true then ((impl_isTime.f a2).bind fun t333 => (impl_MarkSet.j0 k a1 a2 (!t333) a0_0 l0_1)) else (impl_MarkSet.j0 k a1 a2 true a0_0 l0_1)) = some (r1, r2, r3) := H
  have A7 := Aside0.mk A70
  clear A70
  by_cases c8 : t332 = true
  ·subst c8
   have H1 : ((impl_isTime.f a2).bind fun t333 => (impl_MarkSet.j0 k a1 a2 (!t333) a0_0 l0_1)) = some (r1, r2, r3) := by rw [if_pos rfl] at H; exact H
   clear H
   have H := H1
   clear H1
   replace H := Option.bind_eq_some_iff.mp H
   obtain ⟨t333, A90, H⟩ := H
   replace H : (impl_MarkSet.j0 k a1 a2 (!t333) a0_0 l0_1) = some (r1, r2, r3) := H
   have A9 := Aside0.mk A90
   clear A90
   have H' := Aside0.mk H
   clear H
   have hnb10 := NB330_331.out
   have hnc10 := NB331_330.out
   have hcz11_0 : w6.cell? ⟨gb330, 0, none⟩ = some (.int .i64 a0_0) := (blk_cell BK330.out 0).trans rfl
   have hcz11_1 : w6.cell? ⟨gb330, 1, none⟩ = some (.slice A0_1 l0_1.length c0_1) := (blk_cell BK330.out 1).trans rfl
   have hfz11_0 := blk_frozen BK330.out 0
   have hfz11_1 := blk_frozen BK330.out 1
   go_wp2_with (first | ((with_reducible refine gate_callee (f := 70) rfl ?_); refine goesL_ (some 11) rfl rfl Try.func70 (by kernel_rfl) rfl #[.agg #[.int .i64 a0_0, .slice A0_1 l0_1.length c0_1], .int .i64 a1] rfl (zb10) ?_; (with_reducible refine (impl_hasMark.calls k a0_0 _ _ l0_1 a1 true _ ?side1 ?side2 A7.out).mono ?_); (case side1 => exact zb19); (case side2 => exact HC0_1.out); rintro e w12 ⟨rfl, hb⟩; refine ⟨_, rfl, ?_⟩; have n0_ := Aside0.mk (blk_below (g := gb330) (o := .cells #[.int .i64 a0_0, .slice A0_1 l0_1.length c0_1] 53 (0, 0)) (zb132) hb); have n1_ := Aside0.mk (blk_below (g := gb331) (o := .cells #[.int .i64 0, .slice none 0 0] 53 (0, 0)) (zb134) hb); have n2_ := Aside0.mk (below_step (zb135) hb); clear BK330; clear BK331; clear HB; have BK330 := n0_; have BK331 := n1_; have HB := n2_; clear n0_ n1_ n2_; (try clear hb); (try clear hb2); (try clear hk); (try clear hi)) | (go_at_call 53; (with_reducible refine (impl_isTime.calls a2 t333 _ A9.out).mono ?_); rintro e w' ⟨rfl, ⟨nd, rfl⟩⟩))
   go_meet
   case rel => exact ⟨_, (!t333), (zb1), H', ⟨zb16⟩, ⟨zb132⟩, ⟨zb134⟩, ⟨zb135⟩⟩
  ·replace c8 := Bool.eq_false_iff.mpr c8
   subst c8
   have H1 : (impl_MarkSet.j0 k a1 a2 true a0_0 l0_1) = some (r1, r2, r3) := by rw [if_neg (show ¬ (false = true) by decide)] at H; exact H
   clear H
   have H := H1
   clear H1
   have H' := Aside0.mk H
   clear H
   have hnb13 := NB330_331.out
   have hnc13 := NB331_330.out
   have hcz14_0 : w6.cell? ⟨gb330, 0, none⟩ = some (.int .i64 a0_0) := (blk_cell BK330.out 0).trans rfl
   have hcz14_1 : w6.cell? ⟨gb330, 1, none⟩ = some (.slice A0_1 l0_1.length c0_1) := (blk_cell BK330.out 1).trans rfl
   have hfz14_0 := blk_frozen BK330.out 0
   have hfz14_1 := blk_frozen BK330.out 1
   go_wp2_with (first | ((with_reducible refine gate_callee (f := 70) rfl ?_); refine goesL_ (some 11) rfl rfl Try.func70 (by kernel_rfl) rfl #[.agg #[.int .i64 a0_0, .slice A0_1 l0_1.length c0_1], .int .i64 a1] rfl (zb10) ?_; (with_reducible refine (impl_hasMark.calls k a0_0 _ _ l0_1 a1 false _ ?side1 ?side2 A7.out).mono ?_); (case side1 => exact zb19); (case side2 => exact HC0_1.out); rintro e w15 ⟨rfl, hb⟩; refine ⟨_, rfl, ?_⟩; have n0_ := Aside0.mk (blk_below (g := gb330) (o := .cells #[.int .i64 a0_0, .slice A0_1 l0_1.length c0_1] 53 (0, 0)) (zb132) hb); have n1_ := Aside0.mk (blk_below (g := gb331) (o := .cells #[.int .i64 0, .slice none 0 0] 53 (0, 0)) (zb134) hb); have n2_ := Aside0.mk (below_step (zb135) hb); clear BK330; clear BK331; clear HB; have BK330 := n0_; have BK331 := n1_; have HB := n2_; clear n0_ n1_ n2_; (try clear hb); (try clear hb2); (try clear hk); (try clear hi)))
   go_meet
   case rel => exact ⟨_, (true), (zb1), H', ⟨zb16⟩, ⟨zb132⟩, ⟨zb134⟩, ⟨zb135⟩⟩
 case rest =>
  clear HC4
  try clear c1
  try clear p2
  try clear c3
  try clear c7
  try clear c8
  try clear c10
  try clear c13
  try clear hcz11_0
  try clear hcz11_1
  try clear hcz14_0
  try clear hcz14_1
  try clear hfz11_0
  try clear hfz11_1
  try clear hfz14_0
  try clear hfz14_1
  obtain ⟨kq, x8_3, rfl, HA, HJ3, BK330, BK331, HB⟩ := hcut
  cases kq with
  | zero => exact absurd HA.out (by simp [impl_MarkSet.j0])
  | succ kj3 =>
   have H := HA.out
   clear HA
   simp only [impl_MarkSet.j0] at H
   by_cases c16 : x8_3 = true
   ·subst c16
    have H1 : (some (0, ([] : List (S63)), 1)) = some (r1, r2, r3) := by rw [if_pos rfl] at H; exact H
    clear H
    have H := H1
    clear H1
    simp only [Option.some.injEq, Prod.mk.injEq] at H
    obtain ⟨rfl, rfl, rfl⟩ := H
    have hnb17 := NB331_330.out
    have hnc17 := NB330_331.out
    have hcz18_0 : wc.cell? ⟨gb331, 0, none⟩ = some (.int .i64 0) := (blk_cell BK331.out 0).trans rfl
    have hcz18_1 : wc.cell? ⟨gb331, 1, none⟩ = some (.slice none 0 0) := (blk_cell BK331.out 1).trans rfl
    have hfz18_0 := blk_frozen BK331.out 0
    have hfz18_1 := blk_frozen BK331.out 1
    go_wp2
    refine bodyPost_ret (results_ct rfl _ _ gb331 53 #[.int .i64 0, .slice none 0 0] (0, 0) _ rfl (zb136) Try.underlying53 rfl (by kernel_rfl)) rfl ?_
    exact ⟨_, zb5, zb42, zb135⟩
   ·replace c16 := Bool.eq_false_iff.mpr c16
    subst c16
    have H1 : (if 0 ≤ a1 then (if a1 < (l0_1.length : Int) then (if a2 < ((rd_T63 l0_1 a1).f0) then (some (0, ([] : List (S63)), 2)) else ((impl_Marks_with.f kj3 a0_0 l0_1 a1 a2 false).bind fun bt335 => (some (bt335.1, bt335.2, 0)))) else (none)) else (none)) = some (r1, r2, r3) := by rw [if_neg (show ¬ (false = true) by decide)] at H; exact H
    clear H
    have H := H1
    clear H1
    by_cases c19 : 0 ≤ a1
    ·rw [if_pos c19] at H
     have c19b0 : decide (0 ≤ a1) = true := decide_eq_true c19
     clear c19
     by_cases c20 : a1 < (l0_1.length : Int)
     ·rw [if_pos c20] at H
      have c20b0 : decide (a1 < (l0_1.length : Int)) = true := decide_eq_true c20
      clear c20
      by_cases c21 : a2 < ((rd_T63 l0_1 a1).f0)
      ·rw [if_pos c21] at H
       have c21b0 : decide (a2 < ((rd_T63 l0_1 a1).f0)) = true := decide_eq_true c21
       clear c21
       simp only [Option.some.injEq, Prod.mk.injEq] at H
       obtain ⟨rfl, rfl, rfl⟩ := H
       have hnb22 := NB330_331.out
       have hnc22 := NB331_330.out
       have hcz23_0 : wc.cell? ⟨gb330, 0, none⟩ = some (.int .i64 a0_0) := (blk_cell BK330.out 0).trans rfl
       have hcz23_1 : wc.cell? ⟨gb330, 1, none⟩ = some (.slice A0_1 l0_1.length c0_1) := (blk_cell BK330.out 1).trans rfl
       have hfz23_0 := blk_frozen BK330.out 0
       have hfz23_1 := blk_frozen BK330.out 1
       have p334 : 0 ≤ (a1 : Int) := of_decide_eq_true (zb9)
       have q334 : a1 < (l0_1.length : Int) := of_decide_eq_true (zb9)
       obtain ⟨ad334, e334, hx334_0, hx334_1⟩ := at_T63 HR0_1.out a1 p334 q334
       cases e334
       replace hx334_0 := (HB.out.cell (World.block_lt_of_cell? w _ hx334_0)).trans hx334_0
       replace hx334_1 := (HB.out.cell (World.block_lt_of_cell? w _ hx334_1)).trans hx334_1
       replace p334 := eq_true p334
       replace q334 := eq_true q334
       have hcz24_0 : wc.cell? ⟨gb331, 0, none⟩ = some (.int .i64 0) := (blk_cell BK331.out 0).trans rfl
       have hcz24_1 : wc.cell? ⟨gb331, 1, none⟩ = some (.slice none 0 0) := (blk_cell BK331.out 1).trans rfl
       have hfz24_0 := blk_frozen BK331.out 0
       have hfz24_1 := blk_frozen BK331.out 1
       go_wp2
       refine bodyPost_ret (results_ct rfl _ _ gb331 53 #[.int .i64 0, .slice none 0 0] (0, 0) _ rfl (zb136) Try.underlying53 rfl (by kernel_rfl)) rfl ?_
       exact ⟨_, zb5, zb42, zb135⟩
      ·rw [if_neg c21] at H
       have c21b0 : decide (a2 < ((rd_T63 l0_1 a1).f0)) = false := decide_eq_false c21
       clear c21
       replace H := Option.bind_eq_some_iff.mp H
       obtain ⟨⟨t335, t336⟩, A250, H⟩ := H
       replace H : (some (t335, t336, 0)) = some (r1, r2, r3) := H
       have A25 := Aside0.mk A250
       clear A250
       simp only [Option.some.injEq, Prod.mk.injEq] at H
       obtain ⟨rfl, rfl, rfl⟩ := H
       have hnb26 := NB330_331.out
       have hnc26 := NB331_330.out
       have hcz27_0 : wc.cell? ⟨gb330, 0, none⟩ = some (.int .i64 a0_0) := (blk_cell BK330.out 0).trans rfl
       have hcz27_1 : wc.cell? ⟨gb330, 1, none⟩ = some (.slice A0_1 l0_1.length c0_1) := (blk_cell BK330.out 1).trans rfl
       have hfz27_0 := blk_frozen BK330.out 0
       have hfz27_1 := blk_frozen BK330.out 1
       have p334 : 0 ≤ (a1 : Int) := of_decide_eq_true (zb9)
       have q334 : a1 < (l0_1.length : Int) := of_decide_eq_true (zb9)
       obtain ⟨ad334, e334, hx334_0, hx334_1⟩ := at_T63 HR0_1.out a1 p334 q334
       cases e334
       replace hx334_0 := (HB.out.cell (World.block_lt_of_cell? w _ hx334_0)).trans hx334_0
       replace hx334_1 := (HB.out.cell (World.block_lt_of_cell? w _ hx334_1)).trans hx334_1
       replace p334 := eq_true p334
       replace q334 := eq_true q334
       go_wp2_with (first | ((with_reducible refine gate_callee (f := 71) rfl ?_); refine goesL_ (some 33) rfl rfl Try.func71 (by kernel_rfl) rfl #[.agg #[.int .i64 a0_0, .slice (some ad334) l0_1.length c0_1], .int .i64 a1, .agg #[.int .i64 a2, .bool false]] rfl (zb10) ?_; (with_reducible refine (impl_Marks_with.calls kj3 a0_0 _ _ l0_1 a1 a2 false t335 t336 _ ?side1 ?side2 A25.out).mono ?_); (case side1 => exact zb19); (case side2 => exact HC0_1.out); rintro e w28 ⟨v337, rfl, ho0, hb⟩; refine ⟨_, rfl, ?_⟩; have n0_ := Aside0.mk (Kd.R_lower ho0 (below_size (zb135))); have n1_ := Aside0.mk (blk_below (g := gb330) (o := .cells #[.int .i64 a0_0, .slice (some ad334) l0_1.length c0_1] 53 (0, 0)) (zb132) hb); have n2_ := Aside0.mk (blk_below (g := gb331) (o := .cells #[.int .i64 0, .slice none 0 0] 53 (0, 0)) (zb134) hb); have n3_ := Aside0.mk (below_step (zb135) hb); clear BK330; clear BK331; clear HB; have HO338 := n0_; have BK330 := n1_; have BK331 := n2_; have HB := n3_; clear n0_ n1_ n2_ n3_; (try clear hb); (try clear hb2); (try clear hk); (try clear hi); (try clear ho0); have hcz29_0 : w28.cell? ⟨gb331, 0, none⟩ = some (.int .i64 0) := (blk_cell BK331.out 0).trans rfl; have hcz29_1 : w28.cell? ⟨gb331, 1, none⟩ = some (.slice none 0 0) := (blk_cell BK331.out 1).trans rfl; have hfz29_0 := blk_frozen BK331.out 0; have hfz29_1 := blk_frozen BK331.out 1; obtain ⟨Ao30, co30, eo30⟩ := Kd.R_slice HO338.out; subst eo30))
       refine bodyPost_ret (results_ct rfl _ _ gb331 53 #[.int .i64 t335, .slice Ao30 t336.length co30] (0, 0) _ rfl (by (with_reducible repeat (first | refine blk_drewN ?_ _ | refine blk_drew ?_ | refine blk_alloc ?_ _)); refine blk_put (cs := #[.int .i64 t335, .slice none 0 0]) ?_ 1 _ rfl; (with_reducible repeat (first | refine blk_drewN ?_ _ | refine blk_drew ?_ | refine blk_alloc ?_ _)); refine blk_put (cs := #[.int .i64 0, .slice none 0 0]) ?_ 0 _ rfl; (with_reducible repeat (first | refine blk_drewN ?_ _ | refine blk_drew ?_ | refine blk_alloc ?_ _)); exact BK331.out) Try.underlying53 rfl (by kernel_rfl)) rfl ?_
       exact ⟨_, zb5, by (with_reducible repeat (first | apply Kd.R_alloc | apply Kd.R_drewN | apply Kd.R_drew)); exact Kd.R_mono (Kd.R_far (p := ⟨gb331, 1, none⟩) (Kd.R_far (p := ⟨gb331, 0, none⟩) (Kd.R_types HO338.out BK331.out (by decide)) (fun _ hk => hk.2) (.int .i64 t335)) (fun _ hk => hk.2) (.slice Ao30 t336.length co30)) (fun _ hk => trivial), zb135⟩
     ·rw [if_neg c20] at H
      exact absurd H (by simp)
    ·rw [if_neg c19] at H
     exact absurd H (by simp)

end Go.Proofs.Ytahnodgbfonlhaa.PFnMarks
