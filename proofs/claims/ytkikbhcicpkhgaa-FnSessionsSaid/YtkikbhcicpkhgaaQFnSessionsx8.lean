/- Contracts of the functions that the law FnSessions reaches, part 8: each says that the call returns what the Lean function of the same name computes. Made from a generated text by a program of this session. -/
import Derived.Test.YtkikbhcicpkhgaaQFnSessionsx0
namespace Go.Proofs.Ytkikbhcicpkhgaa.PFnSessions
open Go.RowKit Go.Proofs.YtkikbhcicpkhgaaW.PrintWords Go.Proofs.YtkikbhcicpkhgaaW.PrintLast Go.Proofs.YtkikbhcicpkhgaaW.PrintMore
attribute [local go_sem] max2_int min2_int max_two min_two max_three min_three max_four min_four   -- for this text's walks alone
set_option linter.unusedVariables false
set_option linter.unusedSimpArgs false

/-! ### impl_winsOf: function 77 -/
def impl_winsOf.l0 : Nat → Int → List (S105) → Int → Int → Int → Int → Option ((List (S105)))
 | 0, _, _, _, _, _, _ => none
 | k + 1, x1, x6, x7, x318000, x318001, x318002 => if x7 ≤ x1 then (if x1 < (wrap64 (x7 + x318001)) then (if x6.length < 8796093022208 then (impl_winsOf.l0 k x1 (x6 ++ [(⟨x7, wrap64 (x7 + x318001)⟩ : S105)]) (wrap64 (x7 + x318002)) x318000 x318001 x318002) else (none)) else (impl_winsOf.l0 k x1 x6 (wrap64 (x7 + x318002)) x318000 x318001 x318002)) else (some x6)
def impl_winsOf.f (k : Nat) (a0_0 : Int) (a0_1 : Int) (a0_2 : Int) (a1 : Int) : Option ((List (S105))) := if a0_0 = 1 then (if a0_1 = 0 then (none) else (some (([(⟨wrap64 ((wrap64 (Int.tdiv a1 a0_1)) * a0_1), wrap64 ((wrap64 ((wrap64 (Int.tdiv a1 a0_1)) * a0_1)) + a0_1)⟩ : S105)] : List (S105))))) else (if a0_0 = 3 then (some (([(⟨a1, wrap64 (a1 + a0_1)⟩ : S105)] : List (S105)))) else (impl_winsOf.l0 k a1 (([] : List (S105))) 0 a0_0 a0_1 a0_2))
theorem impl_winsOf.mono_l : ∀ k, (∀ y0 y1 y2 y3 y4 y5, LeO (impl_winsOf.l0 k y0 y1 y2 y3 y4 y5) (impl_winsOf.l0 (k + 1) y0 y1 y2 y3 y4 y5))
 | 0 => fun _ _ _ _ _ _ r h => by simp [impl_winsOf.l0] at h
 | k + 1 => by
  have ih0 := impl_winsOf.mono_l k
  ·intro y0 y1 y2 y3 y4 y5
   unfold impl_winsOf.l0
   repeat' first
   | (with_reducible exact ih0 _ _ _ _ _ _)
   | (with_reducible exact LeO.refl _)
   | (with_reducible exact LeO.none _)
   | (with_reducible refine LeO.ite ?_ ?_)
   | (with_reducible refine LeO.bind ?_ (fun _ => ?_))
   | exact ih0 _ _ _ _ _ _
   | exact LeO.none _
   | refine LeO.ite ?_ ?_
   | refine LeO.bind ?_ (fun _ => ?_)
theorem impl_winsOf.mono : ∀ a0 a1 a2 a3 k, LeO (impl_winsOf.f k a0 a1 a2 a3) (impl_winsOf.f (k + 1) a0 a1 a2 a3) := by
 intro a0 a1 a2 a3 k
 have ih0 := impl_winsOf.mono_l k
 unfold impl_winsOf.f
 repeat' first
   | (with_reducible exact ih0 _ _ _ _ _ _)
   | (with_reducible exact LeO.refl _)
   | (with_reducible exact LeO.none _)
   | (with_reducible refine LeO.ite ?_ ?_)
   | (with_reducible refine LeO.bind ?_ (fun _ => ?_))
   | exact ih0 _ _ _ _ _ _
   | exact LeO.none _
   | refine LeO.ite ?_ ?_
   | refine LeO.bind ?_ (fun _ => ?_)
set_option maxHeartbeats 8000000 in
set_option maxRecDepth 100000 in
theorem impl_winsOf.calls (k : Nat) (a0_0 : Int) (a0_1 : Int) (a0_2 : Int) (a1 : Int) (r : List (S105)) (w : World) (h : impl_winsOf.f k a0_0 a0_1 a0_2 a1 = some r) :
  Calls Try.prog 77 #[.agg #[.int .i64 a0_0, .int .i64 a0_1, .int .i64 a0_2], .int .i64 a1] w fun e w' => ∃ v0_ : Value, e = .returned (v0_) ∧ Kd.R k105 105 w' w.heap.size (fun _ => True) v0_ r ∧ Below w.heap.size w w' := by
 have hu48 := Try.underlying48
 have hu105 := Try.underlying105
 have HB := Aside0.mk (Below.refl w.heap.size w)
 have H : (if a0_0 = 1 then (if a0_1 = 0 then (none) else (some (([(⟨wrap64 ((wrap64 (Int.tdiv a1 a0_1)) * a0_1), wrap64 ((wrap64 ((wrap64 (Int.tdiv a1 a0_1)) * a0_1)) + a0_1)⟩ : S105)] : List (S105))))) else (if a0_0 = 3 then (some (([(⟨a1, wrap64 (a1 + a0_1)⟩ : S105)] : List (S105)))) else (impl_winsOf.l0 k a1 (([] : List (S105))) 0 a0_0 a0_1 a0_2))) = some r := h
 clear h
 by_cases c3 : a0_0 = 1
 ·rw [if_pos c3] at H
  have c3b0 : (a0_0 == 1) = true := beq_iff_eq.mpr c3
  have c3b1 : (a0_0 != 1) = false := bne_eq_false_iff_eq.mpr c3
  clear c3
  by_cases c4 : a0_1 = 0
  ·rw [if_pos c4] at H
   exact absurd H (by simp)
  ·rw [if_neg c4] at H
   have c4b0 : (a0_1 == 0) = false := beq_eq_false_iff_ne.mpr c4
   have c4b1 : (a0_1 != 0) = true := bne_iff_ne.mpr c4
   obtain ⟨y318, hy318⟩ : ∃ y_ : List (S105), y_ = (([(⟨wrap64 ((wrap64 (Int.tdiv a1 a0_1)) * a0_1), wrap64 ((wrap64 ((wrap64 (Int.tdiv a1 a0_1)) * a0_1)) + a0_1)⟩ : S105)] : List (S105))) := ⟨_, rfl⟩
   replace H : (some y318) = some r := by first | (rw [hy318]; with_reducible exact H) | (have H2_ := (Option.bind_some _ _).symm.trans H; rw [hy318]; with_reducible exact H2_) | (have H2_ := (Option.bind_some _ _).symm.trans H; with_reducible exact H2_) | with_reducible exact H | (rw [hy318]; exact H) | exact H
   have Ny318 := Aside0.mk hy318
   clear hy318
   obtain rfl := Option.some.inj H
   go_enter Try.func77, Try.ntmps77
   go_wp2_with (first | ((with_reducible refine gate_dst (N := 2) rfl ?_); refine box_event ?hg (N := 2) ?hd (cs := #[.int .i64 a0_0, .int .i64 a0_1, .int .i64 a0_2]) (t := 48) ?hr ?_; (case hd => rfl); (case hg => rfl); (case hr => first | (go_simp; done) | (go_simp; rfl)); intro gb317 hg w5 hbox hb; have n0_ := Aside0.mk (below_step (zb3) hb); have n1_ := Aside0.mk (hbox); have n2_ := Aside0.mk ((by rw [hg]; exact (below_size (zb3)) : w.heap.size ≤ gb317)); have n3_ := Aside0.mk ((by rw [hg]; exact (below_size (zb3)) : w.heap.size ≤ gb317)); clear HB; have HB := n0_; have BK317 := n1_; have GW317 := n2_; have GE317 := n3_; clear n0_ n1_ n2_ n3_; clear hb hbox hg; have hcz6_0 : w5.cell? ⟨gb317, 0, none⟩ = some (.int .i64 a0_0) := (blk_cell BK317.out 0).trans rfl; have hcz6_1 : w5.cell? ⟨gb317, 1, none⟩ = some (.int .i64 a0_1) := (blk_cell BK317.out 1).trans rfl; have hcz6_2 : w5.cell? ⟨gb317, 2, none⟩ = some (.int .i64 a0_2) := (blk_cell BK317.out 2).trans rfl; have hfz6_0 := blk_frozen BK317.out 0; have hfz6_1 := blk_frozen BK317.out 1; have hfz6_2 := blk_frozen BK317.out 2) | ((with_reducible refine gate_dst (N := 25) rfl ?_); refine Kd.R_lit k105 _ 105 ?hg (N := 25) ?hd (xs := ([(⟨wrap64 ((wrap64 (Int.tdiv a1 a0_1)) * a0_1), wrap64 ((wrap64 ((wrap64 (Int.tdiv a1 a0_1)) * a0_1)) + a0_1)⟩ : S105)] : List (S105))) (inner := [.int .i64 (wrap64 ((wrap64 (Int.tdiv a1 a0_1)) * a0_1)), .int .i64 (wrap64 ((wrap64 ((wrap64 (Int.tdiv a1 a0_1)) * a0_1)) + a0_1))]) (ok := fun _ => True) (okp := fun _ => True) ?hr ?hp (fun _ hk => hk) trivial (Below.refl _ _) (Nat.le_refl _) (by simp) ?_; (case hd => rfl); (case hg => rfl); (case hr => first | (go_simp; done) | (go_simp; rfl)); (case hp => exact (Reps.c2 (show Kd.M k105 _ _ _ (⟨wrap64 ((wrap64 (Int.tdiv a1 a0_1)) * a0_1), wrap64 ((wrap64 ((wrap64 (Int.tdiv a1 a0_1)) * a0_1)) + a0_1)⟩ : S105) [.int .i64 (wrap64 ((wrap64 (Int.tdiv a1 a0_1)) * a0_1)), .int .i64 (wrap64 ((wrap64 ((wrap64 (Int.tdiv a1 a0_1)) * a0_1)) + a0_1))] from (k105_mkM _ _ _ (⟨wrap64 ((wrap64 (Int.tdiv a1 a0_1)) * a0_1), wrap64 ((wrap64 ((wrap64 (Int.tdiv a1 a0_1)) * a0_1)) + a0_1)⟩ : S105) )) (Reps.none _ _))); intro v319 w7 ho8 hb hg_ hnew_; clear hg_ hnew_; (first | rw [← Ny318.out] at ho8 | (simp only [Int.reduceToNat] at ho8; rw [← Ny318.out] at ho8)); have n0_ := Aside0.mk (Kd.R_lower ho8 (below_size (zb70))); have n1_ := Aside0.mk (blk_below (g := gb317) (o := .cells #[.int .i64 a0_0, .int .i64 a0_1, .int .i64 a0_2] 48 (0, 0)) (zb71) hb); have n2_ := Aside0.mk (below_step (zb70) hb); clear BK317; clear HB; have HO320 := n0_; have BK317 := n1_; have HB := n2_; clear n0_ n1_ n2_; clear hb ho8))
   repeat (go_quiet (first | ((with_reducible refine gate_dst (N := 2) rfl ?_); refine box_event ?hg (N := 2) ?hd (cs := #[.int .i64 a0_0, .int .i64 a0_1, .int .i64 a0_2]) (t := 48) ?hr ?_; (case hd => rfl); (case hg => rfl); (case hr => first | (go_simp; done) | (go_simp; rfl)); intro gb317 hg w5 hbox hb; have n0_ := Aside0.mk (below_step (zb3) hb); have n1_ := Aside0.mk (hbox); have n2_ := Aside0.mk ((by rw [hg]; exact (below_size (zb3)) : w.heap.size ≤ gb317)); have n3_ := Aside0.mk ((by rw [hg]; exact (below_size (zb3)) : w.heap.size ≤ gb317)); clear HB; have HB := n0_; have BK317 := n1_; have GW317 := n2_; have GE317 := n3_; clear n0_ n1_ n2_ n3_; clear hb hbox hg; have hcz6_0 : w5.cell? ⟨gb317, 0, none⟩ = some (.int .i64 a0_0) := (blk_cell BK317.out 0).trans rfl; have hcz6_1 : w5.cell? ⟨gb317, 1, none⟩ = some (.int .i64 a0_1) := (blk_cell BK317.out 1).trans rfl; have hcz6_2 : w5.cell? ⟨gb317, 2, none⟩ = some (.int .i64 a0_2) := (blk_cell BK317.out 2).trans rfl; have hfz6_0 := blk_frozen BK317.out 0; have hfz6_1 := blk_frozen BK317.out 1; have hfz6_2 := blk_frozen BK317.out 2) | ((with_reducible refine gate_dst (N := 25) rfl ?_); refine Kd.R_lit k105 _ 105 ?hg (N := 25) ?hd (xs := ([(⟨wrap64 ((wrap64 (Int.tdiv a1 a0_1)) * a0_1), wrap64 ((wrap64 ((wrap64 (Int.tdiv a1 a0_1)) * a0_1)) + a0_1)⟩ : S105)] : List (S105))) (inner := [.int .i64 (wrap64 ((wrap64 (Int.tdiv a1 a0_1)) * a0_1)), .int .i64 (wrap64 ((wrap64 ((wrap64 (Int.tdiv a1 a0_1)) * a0_1)) + a0_1))]) (ok := fun _ => True) (okp := fun _ => True) ?hr ?hp (fun _ hk => hk) trivial (Below.refl _ _) (Nat.le_refl _) (by simp) ?_; (case hd => rfl); (case hg => rfl); (case hr => first | (go_simp; done) | (go_simp; rfl)); (case hp => exact (Reps.c2 (show Kd.M k105 _ _ _ (⟨wrap64 ((wrap64 (Int.tdiv a1 a0_1)) * a0_1), wrap64 ((wrap64 ((wrap64 (Int.tdiv a1 a0_1)) * a0_1)) + a0_1)⟩ : S105) [.int .i64 (wrap64 ((wrap64 (Int.tdiv a1 a0_1)) * a0_1)), .int .i64 (wrap64 ((wrap64 ((wrap64 (Int.tdiv a1 a0_1)) * a0_1)) + a0_1))] from (k105_mkM _ _ _ (⟨wrap64 ((wrap64 (Int.tdiv a1 a0_1)) * a0_1), wrap64 ((wrap64 ((wrap64 (Int.tdiv a1 a0_1)) * a0_1)) + a0_1)⟩ : S105) )) (Reps.none _ _))); intro v319 w7 ho8 hb hg_ hnew_; clear hg_ hnew_; (first | rw [← Ny318.out] at ho8 | (simp only [Int.reduceToNat] at ho8; rw [← Ny318.out] at ho8)); have n0_ := Aside0.mk (Kd.R_lower ho8 (below_size (zb70))); have n1_ := Aside0.mk (blk_below (g := gb317) (o := .cells #[.int .i64 a0_0, .int .i64 a0_1, .int .i64 a0_2] 48 (0, 0)) (zb71) hb); have n2_ := Aside0.mk (below_step (zb70) hb); clear BK317; clear HB; have HO320 := n0_; have BK317 := n1_; have HB := n2_; clear n0_ n1_ n2_; clear hb ho8)); try go_wp2_with (first | ((with_reducible refine gate_dst (N := 2) rfl ?_); refine box_event ?hg (N := 2) ?hd (cs := #[.int .i64 a0_0, .int .i64 a0_1, .int .i64 a0_2]) (t := 48) ?hr ?_; (case hd => rfl); (case hg => rfl); (case hr => first | (go_simp; done) | (go_simp; rfl)); intro gb317 hg w5 hbox hb; have n0_ := Aside0.mk (below_step (zb3) hb); have n1_ := Aside0.mk (hbox); have n2_ := Aside0.mk ((by rw [hg]; exact (below_size (zb3)) : w.heap.size ≤ gb317)); have n3_ := Aside0.mk ((by rw [hg]; exact (below_size (zb3)) : w.heap.size ≤ gb317)); clear HB; have HB := n0_; have BK317 := n1_; have GW317 := n2_; have GE317 := n3_; clear n0_ n1_ n2_ n3_; clear hb hbox hg; have hcz6_0 : w5.cell? ⟨gb317, 0, none⟩ = some (.int .i64 a0_0) := (blk_cell BK317.out 0).trans rfl; have hcz6_1 : w5.cell? ⟨gb317, 1, none⟩ = some (.int .i64 a0_1) := (blk_cell BK317.out 1).trans rfl; have hcz6_2 : w5.cell? ⟨gb317, 2, none⟩ = some (.int .i64 a0_2) := (blk_cell BK317.out 2).trans rfl; have hfz6_0 := blk_frozen BK317.out 0; have hfz6_1 := blk_frozen BK317.out 1; have hfz6_2 := blk_frozen BK317.out 2) | ((with_reducible refine gate_dst (N := 25) rfl ?_); refine Kd.R_lit k105 _ 105 ?hg (N := 25) ?hd (xs := ([(⟨wrap64 ((wrap64 (Int.tdiv a1 a0_1)) * a0_1), wrap64 ((wrap64 ((wrap64 (Int.tdiv a1 a0_1)) * a0_1)) + a0_1)⟩ : S105)] : List (S105))) (inner := [.int .i64 (wrap64 ((wrap64 (Int.tdiv a1 a0_1)) * a0_1)), .int .i64 (wrap64 ((wrap64 ((wrap64 (Int.tdiv a1 a0_1)) * a0_1)) + a0_1))]) (ok := fun _ => True) (okp := fun _ => True) ?hr ?hp (fun _ hk => hk) trivial (Below.refl _ _) (Nat.le_refl _) (by simp) ?_; (case hd => rfl); (case hg => rfl); (case hr => first | (go_simp; done) | (go_simp; rfl)); (case hp => exact (Reps.c2 (show Kd.M k105 _ _ _ (⟨wrap64 ((wrap64 (Int.tdiv a1 a0_1)) * a0_1), wrap64 ((wrap64 ((wrap64 (Int.tdiv a1 a0_1)) * a0_1)) + a0_1)⟩ : S105) [.int .i64 (wrap64 ((wrap64 (Int.tdiv a1 a0_1)) * a0_1)), .int .i64 (wrap64 ((wrap64 ((wrap64 (Int.tdiv a1 a0_1)) * a0_1)) + a0_1))] from (k105_mkM _ _ _ (⟨wrap64 ((wrap64 (Int.tdiv a1 a0_1)) * a0_1), wrap64 ((wrap64 ((wrap64 (Int.tdiv a1 a0_1)) * a0_1)) + a0_1)⟩ : S105) )) (Reps.none _ _))); intro v319 w7 ho8 hb hg_ hnew_; clear hg_ hnew_; (first | rw [← Ny318.out] at ho8 | (simp only [Int.reduceToNat] at ho8; rw [← Ny318.out] at ho8)); have n0_ := Aside0.mk (Kd.R_lower ho8 (below_size (zb70))); have n1_ := Aside0.mk (blk_below (g := gb317) (o := .cells #[.int .i64 a0_0, .int .i64 a0_1, .int .i64 a0_2] 48 (0, 0)) (zb71) hb); have n2_ := Aside0.mk (below_step (zb70) hb); clear BK317; clear HB; have HO320 := n0_; have BK317 := n1_; have HB := n2_; clear n0_ n1_ n2_; clear hb ho8)))
   go_ret
   exact ⟨_, zb5, by (with_reducible repeat (first | apply Kd.R_alloc | apply Kd.R_drewN | apply Kd.R_drew)); exact HO320.out, zb70⟩
 ·rw [if_neg c3] at H
  have c3b0 : (a0_0 == 1) = false := beq_eq_false_iff_ne.mpr c3
  have c3b1 : (a0_0 != 1) = true := bne_iff_ne.mpr c3
  by_cases c9 : a0_0 = 3
  ·rw [if_pos c9] at H
   have c9b0 : (a0_0 == 3) = true := beq_iff_eq.mpr c9
   have c9b1 : (a0_0 != 3) = false := bne_eq_false_iff_eq.mpr c9
   clear c9
   obtain ⟨y321, hy321⟩ : ∃ y_ : List (S105), y_ = (([(⟨a1, wrap64 (a1 + a0_1)⟩ : S105)] : List (S105))) := ⟨_, rfl⟩
   replace H : (some y321) = some r := by first | (rw [hy321]; with_reducible exact H) | (have H2_ := (Option.bind_some _ _).symm.trans H; rw [hy321]; with_reducible exact H2_) | (have H2_ := (Option.bind_some _ _).symm.trans H; with_reducible exact H2_) | with_reducible exact H | (rw [hy321]; exact H) | exact H
   have Ny321 := Aside0.mk hy321
   clear hy321
   obtain rfl := Option.some.inj H
   go_enter Try.func77, Try.ntmps77
   go_wp2_with (first | ((with_reducible refine gate_dst (N := 2) rfl ?_); refine box_event ?hg (N := 2) ?hd (cs := #[.int .i64 a0_0, .int .i64 a0_1, .int .i64 a0_2]) (t := 48) ?hr ?_; (case hd => rfl); (case hg => rfl); (case hr => first | (go_simp; done) | (go_simp; rfl)); intro gb317 hg w10 hbox hb; have n0_ := Aside0.mk (below_step (zb3) hb); have n1_ := Aside0.mk (hbox); have n2_ := Aside0.mk ((by rw [hg]; exact (below_size (zb3)) : w.heap.size ≤ gb317)); have n3_ := Aside0.mk ((by rw [hg]; exact (below_size (zb3)) : w.heap.size ≤ gb317)); clear HB; have HB := n0_; have BK317 := n1_; have GW317 := n2_; have GE317 := n3_; clear n0_ n1_ n2_ n3_; clear hb hbox hg; have hcz11_0 : w10.cell? ⟨gb317, 0, none⟩ = some (.int .i64 a0_0) := (blk_cell BK317.out 0).trans rfl; have hcz11_1 : w10.cell? ⟨gb317, 1, none⟩ = some (.int .i64 a0_1) := (blk_cell BK317.out 1).trans rfl; have hcz11_2 : w10.cell? ⟨gb317, 2, none⟩ = some (.int .i64 a0_2) := (blk_cell BK317.out 2).trans rfl; have hfz11_0 := blk_frozen BK317.out 0; have hfz11_1 := blk_frozen BK317.out 1; have hfz11_2 := blk_frozen BK317.out 2) | ((with_reducible refine gate_dst (N := 34) rfl ?_); refine Kd.R_lit k105 _ 105 ?hg (N := 34) ?hd (xs := ([(⟨a1, wrap64 (a1 + a0_1)⟩ : S105)] : List (S105))) (inner := [.int .i64 a1, .int .i64 (wrap64 (a1 + a0_1))]) (ok := fun _ => True) (okp := fun _ => True) ?hr ?hp (fun _ hk => hk) trivial (Below.refl _ _) (Nat.le_refl _) (by simp) ?_; (case hd => rfl); (case hg => rfl); (case hr => first | (go_simp; done) | (go_simp; rfl)); (case hp => exact (Reps.c2 (show Kd.M k105 _ _ _ (⟨a1, wrap64 (a1 + a0_1)⟩ : S105) [.int .i64 a1, .int .i64 (wrap64 (a1 + a0_1))] from (k105_mkM _ _ _ (⟨a1, wrap64 (a1 + a0_1)⟩ : S105) )) (Reps.none _ _))); intro v322 w12 ho13 hb hg_ hnew_; clear hg_ hnew_; (first | rw [← Ny321.out] at ho13 | (simp only [Int.reduceToNat] at ho13; rw [← Ny321.out] at ho13)); have n0_ := Aside0.mk (Kd.R_lower ho13 (below_size (zb70))); have n1_ := Aside0.mk (blk_below (g := gb317) (o := .cells #[.int .i64 a0_0, .int .i64 a0_1, .int .i64 a0_2] 48 (0, 0)) (zb71) hb); have n2_ := Aside0.mk (below_step (zb70) hb); clear BK317; clear HB; have HO323 := n0_; have BK317 := n1_; have HB := n2_; clear n0_ n1_ n2_; clear hb ho13))
   repeat (go_quiet (first | ((with_reducible refine gate_dst (N := 2) rfl ?_); refine box_event ?hg (N := 2) ?hd (cs := #[.int .i64 a0_0, .int .i64 a0_1, .int .i64 a0_2]) (t := 48) ?hr ?_; (case hd => rfl); (case hg => rfl); (case hr => first | (go_simp; done) | (go_simp; rfl)); intro gb317 hg w10 hbox hb; have n0_ := Aside0.mk (below_step (zb3) hb); have n1_ := Aside0.mk (hbox); have n2_ := Aside0.mk ((by rw [hg]; exact (below_size (zb3)) : w.heap.size ≤ gb317)); have n3_ := Aside0.mk ((by rw [hg]; exact (below_size (zb3)) : w.heap.size ≤ gb317)); clear HB; have HB := n0_; have BK317 := n1_; have GW317 := n2_; have GE317 := n3_; clear n0_ n1_ n2_ n3_; clear hb hbox hg; have hcz11_0 : w10.cell? ⟨gb317, 0, none⟩ = some (.int .i64 a0_0) := (blk_cell BK317.out 0).trans rfl; have hcz11_1 : w10.cell? ⟨gb317, 1, none⟩ = some (.int .i64 a0_1) := (blk_cell BK317.out 1).trans rfl; have hcz11_2 : w10.cell? ⟨gb317, 2, none⟩ = some (.int .i64 a0_2) := (blk_cell BK317.out 2).trans rfl; have hfz11_0 := blk_frozen BK317.out 0; have hfz11_1 := blk_frozen BK317.out 1; have hfz11_2 := blk_frozen BK317.out 2) | ((with_reducible refine gate_dst (N := 34) rfl ?_); refine Kd.R_lit k105 _ 105 ?hg (N := 34) ?hd (xs := ([(⟨a1, wrap64 (a1 + a0_1)⟩ : S105)] : List (S105))) (inner := [.int .i64 a1, .int .i64 (wrap64 (a1 + a0_1))]) (ok := fun _ => True) (okp := fun _ => True) ?hr ?hp (fun _ hk => hk) trivial (Below.refl _ _) (Nat.le_refl _) (by simp) ?_; (case hd => rfl); (case hg => rfl); (case hr => first | (go_simp; done) | (go_simp; rfl)); (case hp => exact (Reps.c2 (show Kd.M k105 _ _ _ (⟨a1, wrap64 (a1 + a0_1)⟩ : S105) [.int .i64 a1, .int .i64 (wrap64 (a1 + a0_1))] from (k105_mkM _ _ _ (⟨a1, wrap64 (a1 + a0_1)⟩ : S105) )) (Reps.none _ _))); intro v322 w12 ho13 hb hg_ hnew_; clear hg_ hnew_; (first | rw [← Ny321.out] at ho13 | (simp only [Int.reduceToNat] at ho13; rw [← Ny321.out] at ho13)); have n0_ := Aside0.mk (Kd.R_lower ho13 (below_size (zb70))); have n1_ := Aside0.mk (blk_below (g := gb317) (o := .cells #[.int .i64 a0_0, .int .i64 a0_1, .int .i64 a0_2] 48 (0, 0)) (zb71) hb); have n2_ := Aside0.mk (below_step (zb70) hb); clear BK317; clear HB; have HO323 := n0_; have BK317 := n1_; have HB := n2_; clear n0_ n1_ n2_; clear hb ho13)); try go_wp2_with (first | ((with_reducible refine gate_dst (N := 2) rfl ?_); refine box_event ?hg (N := 2) ?hd (cs := #[.int .i64 a0_0, .int .i64 a0_1, .int .i64 a0_2]) (t := 48) ?hr ?_; (case hd => rfl); (case hg => rfl); (case hr => first | (go_simp; done) | (go_simp; rfl)); intro gb317 hg w10 hbox hb; have n0_ := Aside0.mk (below_step (zb3) hb); have n1_ := Aside0.mk (hbox); have n2_ := Aside0.mk ((by rw [hg]; exact (below_size (zb3)) : w.heap.size ≤ gb317)); have n3_ := Aside0.mk ((by rw [hg]; exact (below_size (zb3)) : w.heap.size ≤ gb317)); clear HB; have HB := n0_; have BK317 := n1_; have GW317 := n2_; have GE317 := n3_; clear n0_ n1_ n2_ n3_; clear hb hbox hg; have hcz11_0 : w10.cell? ⟨gb317, 0, none⟩ = some (.int .i64 a0_0) := (blk_cell BK317.out 0).trans rfl; have hcz11_1 : w10.cell? ⟨gb317, 1, none⟩ = some (.int .i64 a0_1) := (blk_cell BK317.out 1).trans rfl; have hcz11_2 : w10.cell? ⟨gb317, 2, none⟩ = some (.int .i64 a0_2) := (blk_cell BK317.out 2).trans rfl; have hfz11_0 := blk_frozen BK317.out 0; have hfz11_1 := blk_frozen BK317.out 1; have hfz11_2 := blk_frozen BK317.out 2) | ((with_reducible refine gate_dst (N := 34) rfl ?_); refine Kd.R_lit k105 _ 105 ?hg (N := 34) ?hd (xs := ([(⟨a1, wrap64 (a1 + a0_1)⟩ : S105)] : List (S105))) (inner := [.int .i64 a1, .int .i64 (wrap64 (a1 + a0_1))]) (ok := fun _ => True) (okp := fun _ => True) ?hr ?hp (fun _ hk => hk) trivial (Below.refl _ _) (Nat.le_refl _) (by simp) ?_; (case hd => rfl); (case hg => rfl); (case hr => first | (go_simp; done) | (go_simp; rfl)); (case hp => exact (Reps.c2 (show Kd.M k105 _ _ _ (⟨a1, wrap64 (a1 + a0_1)⟩ : S105) [.int .i64 a1, .int .i64 (wrap64 (a1 + a0_1))] from (k105_mkM _ _ _ (⟨a1, wrap64 (a1 + a0_1)⟩ : S105) )) (Reps.none _ _))); intro v322 w12 ho13 hb hg_ hnew_; clear hg_ hnew_; (first | rw [← Ny321.out] at ho13 | (simp only [Int.reduceToNat] at ho13; rw [← Ny321.out] at ho13)); have n0_ := Aside0.mk (Kd.R_lower ho13 (below_size (zb70))); have n1_ := Aside0.mk (blk_below (g := gb317) (o := .cells #[.int .i64 a0_0, .int .i64 a0_1, .int .i64 a0_2] 48 (0, 0)) (zb71) hb); have n2_ := Aside0.mk (below_step (zb70) hb); clear BK317; clear HB; have HO323 := n0_; have BK317 := n1_; have HB := n2_; clear n0_ n1_ n2_; clear hb ho13)))
   go_ret
   exact ⟨_, zb5, by (with_reducible repeat (first | apply Kd.R_alloc | apply Kd.R_drewN | apply Kd.R_drew)); exact HO323.out, zb70⟩
  ·rw [if_neg c9] at H
   have c9b0 : (a0_0 == 3) = false := beq_eq_false_iff_ne.mpr c9
   have c9b1 : (a0_0 != 3) = true := bne_iff_ne.mpr c9
   obtain ⟨y324, hy324⟩ : ∃ y_ : List (S105), y_ = (([] : List (S105))) := ⟨_, rfl⟩
   replace H : (impl_winsOf.l0 k a1 y324 0 a0_0 a0_1 a0_2) = some r := by first | (rw [hy324]; with_reducible exact H) | (have H2_ := (Option.bind_some _ _).symm.trans H; rw [hy324]; with_reducible exact H2_) | (have H2_ := (Option.bind_some _ _).symm.trans H; with_reducible exact H2_) | with_reducible exact H | (rw [hy324]; exact H) | exact H
   have Ny324 := Aside0.mk hy324
   clear hy324
   have H' := Aside0.mk H
   clear H
   go_enter Try.func77, Try.ntmps77
   go_wp2_with (first | ((with_reducible refine gate_dst (N := 2) rfl ?_); refine box_event ?hg (N := 2) ?hd (cs := #[.int .i64 a0_0, .int .i64 a0_1, .int .i64 a0_2]) (t := 48) ?hr ?_; (case hd => rfl); (case hg => rfl); (case hr => first | (go_simp; done) | (go_simp; rfl)); intro gb317 hg w14 hbox hb; have n0_ := Aside0.mk (below_step (zb3) hb); have n1_ := Aside0.mk (hbox); have n2_ := Aside0.mk ((by rw [hg]; exact (below_size (zb3)) : w.heap.size ≤ gb317)); have n3_ := Aside0.mk ((by rw [hg]; exact (below_size (zb3)) : w.heap.size ≤ gb317)); clear HB; have HB := n0_; have BK317 := n1_; have GW317 := n2_; have GE317 := n3_; clear n0_ n1_ n2_ n3_; clear hb hbox hg; have hcz15_0 : w14.cell? ⟨gb317, 0, none⟩ = some (.int .i64 a0_0) := (blk_cell BK317.out 0).trans rfl; have hcz15_1 : w14.cell? ⟨gb317, 1, none⟩ = some (.int .i64 a0_1) := (blk_cell BK317.out 1).trans rfl; have hcz15_2 : w14.cell? ⟨gb317, 2, none⟩ = some (.int .i64 a0_2) := (blk_cell BK317.out 2).trans rfl; have hfz15_0 := blk_frozen BK317.out 0; have hfz15_1 := blk_frozen BK317.out 1; have hfz15_2 := blk_frozen BK317.out 2) | ((with_reducible refine gate_dst (N := 35) rfl ?_); refine Kd.R_lit k105 _ 105 ?hg (N := 35) ?hd (xs := ([] : List (S105))) (inner := []) (ok := fun _ => True) (okp := fun _ => True) ?hr ?hp (fun _ hk => hk) trivial (Below.refl _ _) (Nat.le_refl _) (by simp) ?_; (case hd => rfl); (case hg => rfl); (case hr => first | (go_simp; done) | (go_simp; rfl)); (case hp => exact (Reps.none _ _)); intro v325 w16 ho17 hb hg_ hnew_; clear hg_ hnew_; (first | rw [← Ny324.out] at ho17 | (simp only [Int.reduceToNat] at ho17; rw [← Ny324.out] at ho17)); have n0_ := Aside0.mk (Kd.R_lower ho17 (below_size (zb70))); have n1_ := Aside0.mk (blk_below (g := gb317) (o := .cells #[.int .i64 a0_0, .int .i64 a0_1, .int .i64 a0_2] 48 (0, 0)) (zb71) hb); have n2_ := Aside0.mk (below_step (zb70) hb); clear BK317; clear HB; have HO326 := n0_; have BK317 := n1_; have HB := n2_; clear n0_ n1_ n2_; clear hb ho17))
   repeat (go_quiet (first | ((with_reducible refine gate_dst (N := 2) rfl ?_); refine box_event ?hg (N := 2) ?hd (cs := #[.int .i64 a0_0, .int .i64 a0_1, .int .i64 a0_2]) (t := 48) ?hr ?_; (case hd => rfl); (case hg => rfl); (case hr => first | (go_simp; done) | (go_simp; rfl)); intro gb317 hg w14 hbox hb; have n0_ := Aside0.mk (below_step (zb3) hb); have n1_ := Aside0.mk (hbox); have n2_ := Aside0.mk ((by rw [hg]; exact (below_size (zb3)) : w.heap.size ≤ gb317)); have n3_ := Aside0.mk ((by rw [hg]; exact (below_size (zb3)) : w.heap.size ≤ gb317)); clear HB; have HB := n0_; have BK317 := n1_; have GW317 := n2_; have GE317 := n3_; clear n0_ n1_ n2_ n3_; clear hb hbox hg; have hcz15_0 : w14.cell? ⟨gb317, 0, none⟩ = some (.int .i64 a0_0) := (blk_cell BK317.out 0).trans rfl; have hcz15_1 : w14.cell? ⟨gb317, 1, none⟩ = some (.int .i64 a0_1) := (blk_cell BK317.out 1).trans rfl; have hcz15_2 : w14.cell? ⟨gb317, 2, none⟩ = some (.int .i64 a0_2) := (blk_cell BK317.out 2).trans rfl; have hfz15_0 := blk_frozen BK317.out 0; have hfz15_1 := blk_frozen BK317.out 1; have hfz15_2 := blk_frozen BK317.out 2) | ((with_reducible refine gate_dst (N := 35) rfl ?_); refine Kd.R_lit k105 _ 105 ?hg (N := 35) ?hd (xs := ([] : List (S105))) (inner := []) (ok := fun _ => True) (okp := fun _ => True) ?hr ?hp (fun _ hk => hk) trivial (Below.refl _ _) (Nat.le_refl _) (by simp) ?_; (case hd => rfl); (case hg => rfl); (case hr => first | (go_simp; done) | (go_simp; rfl)); (case hp => exact (Reps.none _ _)); intro v325 w16 ho17 hb hg_ hnew_; clear hg_ hnew_; (first | rw [← Ny324.out] at ho17 | (simp only [Int.reduceToNat] at ho17; rw [← Ny324.out] at ho17)); have n0_ := Aside0.mk (Kd.R_lower ho17 (below_size (zb70))); have n1_ := Aside0.mk (blk_below (g := gb317) (o := .cells #[.int .i64 a0_0, .int .i64 a0_1, .int .i64 a0_2] 48 (0, 0)) (zb71) hb); have n2_ := Aside0.mk (below_step (zb70) hb); clear BK317; clear HB; have HO326 := n0_; have BK317 := n1_; have HB := n2_; clear n0_ n1_ n2_; clear hb ho17)); try go_wp2_with (first | ((with_reducible refine gate_dst (N := 2) rfl ?_); refine box_event ?hg (N := 2) ?hd (cs := #[.int .i64 a0_0, .int .i64 a0_1, .int .i64 a0_2]) (t := 48) ?hr ?_; (case hd => rfl); (case hg => rfl); (case hr => first | (go_simp; done) | (go_simp; rfl)); intro gb317 hg w14 hbox hb; have n0_ := Aside0.mk (below_step (zb3) hb); have n1_ := Aside0.mk (hbox); have n2_ := Aside0.mk ((by rw [hg]; exact (below_size (zb3)) : w.heap.size ≤ gb317)); have n3_ := Aside0.mk ((by rw [hg]; exact (below_size (zb3)) : w.heap.size ≤ gb317)); clear HB; have HB := n0_; have BK317 := n1_; have GW317 := n2_; have GE317 := n3_; clear n0_ n1_ n2_ n3_; clear hb hbox hg; have hcz15_0 : w14.cell? ⟨gb317, 0, none⟩ = some (.int .i64 a0_0) := (blk_cell BK317.out 0).trans rfl; have hcz15_1 : w14.cell? ⟨gb317, 1, none⟩ = some (.int .i64 a0_1) := (blk_cell BK317.out 1).trans rfl; have hcz15_2 : w14.cell? ⟨gb317, 2, none⟩ = some (.int .i64 a0_2) := (blk_cell BK317.out 2).trans rfl; have hfz15_0 := blk_frozen BK317.out 0; have hfz15_1 := blk_frozen BK317.out 1; have hfz15_2 := blk_frozen BK317.out 2) | ((with_reducible refine gate_dst (N := 35) rfl ?_); refine Kd.R_lit k105 _ 105 ?hg (N := 35) ?hd (xs := ([] : List (S105))) (inner := []) (ok := fun _ => True) (okp := fun _ => True) ?hr ?hp (fun _ hk => hk) trivial (Below.refl _ _) (Nat.le_refl _) (by simp) ?_; (case hd => rfl); (case hg => rfl); (case hr => first | (go_simp; done) | (go_simp; rfl)); (case hp => exact (Reps.none _ _)); intro v325 w16 ho17 hb hg_ hnew_; clear hg_ hnew_; (first | rw [← Ny324.out] at ho17 | (simp only [Int.reduceToNat] at ho17; rw [← Ny324.out] at ho17)); have n0_ := Aside0.mk (Kd.R_lower ho17 (below_size (zb70))); have n1_ := Aside0.mk (blk_below (g := gb317) (o := .cells #[.int .i64 a0_0, .int .i64 a0_1, .int .i64 a0_2] 48 (0, 0)) (zb71) hb); have n2_ := Aside0.mk (below_step (zb70) hb); clear BK317; clear HB; have HO326 := n0_; have BK317 := n1_; have HB := n2_; clear n0_ n1_ n2_; clear hb ho17)))
   go_loopg [6, 7] k (fun kq v6 v7 w' => ∃ (x6_1 : List (S105)) (x7_1 : Int), v7 = .int .i64 x7_1 ∧ Aside0 (impl_winsOf.l0 kq a1 x6_1 x7_1 a0_0 a0_1 a0_2 = some r) ∧ Aside0 (kq ≤ k) ∧ Aside0 (Kd.R k105 105 w' w.heap.size (fun _ => True) v6 x6_1) ∧ Aside0 (w'.heap[gb317]? = some (.cells #[.int .i64 a0_0, .int .i64 a0_1, .int .i64 a0_2] 48 (0, 0))) ∧ Aside0 (Below w.heap.size w w'))
   case atStart => exact ⟨(y324), (0), (zb1), H', ⟨Nat.le_refl _⟩, ⟨by (with_reducible repeat (first | apply Kd.R_alloc | apply Kd.R_drewN | apply Kd.R_drew)); exact HO326.out⟩, ⟨zb71⟩, ⟨zb70⟩⟩
   case round =>
    clear H'
    try clear c2
    try clear p2
    try clear c3
    try clear c3b0
    try clear c3b1
    try clear c4
    try clear c4b0
    try clear c4b1
    try clear p6
    try clear c7
    try clear c9
    try clear c9b0
    try clear c9b1
    try clear hcz11_0
    try clear hcz11_1
    try clear hcz11_2
    try clear hcz15_0
    try clear hcz15_1
    try clear hcz15_2
    try clear hcz6_0
    try clear hcz6_1
    try clear hcz6_2
    try clear hfz11_0
    try clear hfz11_1
    try clear hfz11_2
    try clear hfz15_0
    try clear hfz15_1
    try clear hfz15_2
    try clear hfz6_0
    try clear hfz6_1
    try clear hfz6_2
    obtain ⟨x6_1, x7_1, rfl, HA, HK1, HO_6, BK317, HB⟩ := hrel
    cases gk with
    | zero => exact absurd HA.out (by simp [impl_winsOf.l0])
    | succ k1 =>
     have H := HA.out
     clear HA
     simp only [impl_winsOf.l0] at H
     by_cases c18 : x7_1 ≤ a1
     ·rw [if_pos c18] at H
      have c18b0 : decide (x7_1 ≤ a1) = true := decide_eq_true c18
      clear c18
      by_cases c19 : a1 < (wrap64 (x7_1 + a0_1))
      ·rw [if_pos c19] at H
       have c19b0 : decide (a1 < (wrap64 (x7_1 + a0_1))) = true := decide_eq_true c19
       clear c19
       by_cases c20 : x6_1.length < 8796093022208
       ·rw [if_pos c20] at H
        have LMc20 := Aside0.mk c20
        clear c20
        obtain ⟨y327, hy327⟩ : ∃ y_ : List (S105), y_ = (x6_1 ++ [(⟨x7_1, wrap64 (x7_1 + a0_1)⟩ : S105)]) := ⟨_, rfl⟩
        replace H : (impl_winsOf.l0 k1 a1 y327 (wrap64 (x7_1 + a0_2)) a0_0 a0_1 a0_2) = some r := by first | (rw [hy327]; with_reducible exact H) | (have H2_ := (Option.bind_some _ _).symm.trans H; rw [hy327]; with_reducible exact H2_) | (have H2_ := (Option.bind_some _ _).symm.trans H; with_reducible exact H2_) | with_reducible exact H | (rw [hy327]; exact H) | exact H
        have Ny327 := Aside0.mk hy327
        clear hy327
        have H' := Aside0.mk H
        clear H
        have hcz21_0 : wr.cell? ⟨gb317, 0, none⟩ = some (.int .i64 a0_0) := (blk_cell BK317.out 0).trans rfl
        have hcz21_1 : wr.cell? ⟨gb317, 1, none⟩ = some (.int .i64 a0_1) := (blk_cell BK317.out 1).trans rfl
        have hcz21_2 : wr.cell? ⟨gb317, 2, none⟩ = some (.int .i64 a0_2) := (blk_cell BK317.out 2).trans rfl
        have hfz21_0 := blk_frozen BK317.out 0
        have hfz21_1 := blk_frozen BK317.out 1
        have hfz21_2 := blk_frozen BK317.out 2
        go_wp2_with (first | ((with_reducible refine gate_builtin (b := .append) (xs := #[.tmp 49, .tmp 56]) rfl ?_); at_builtin; refine Kd.R_append k105 (w0 := w) w.heap.size rfl (.tmp 49) (.tmp 56) 51 105 (.agg #[(.int .i64 0), (.int .i64 0)]) 16 rfl Try.underlying51 info105 rfl (by decide) (by omega) u6 x6_1 (⟨x7_1, wrap64 (x7_1 + a0_1)⟩ : S105) [.int .i64 x7_1, .int .i64 (wrap64 (x7_1 + a0_1))] (fun _ => True) (fun _ => False) rfl rfl ?aP (fun _ hk => hk.elim) ?aF ?aO ?aB ?aS ?aL ?_; (case aP => exact k105_mkM _ _ _ (⟨x7_1, wrap64 (x7_1 + a0_1)⟩ : S105)); (case aB => exact (zb70)); (case aF => exact (fun _ _ => trivial)); (case aO => exact (zb42)); (case aS => exact (below_size (zb70))); (case aL => have := LMc20.out; omega); intro v328 w22 ho hb hg hat; rw [← Ny327.out] at ho; have n0_ := Aside0.mk (blk_grown (g := gb317) (o := .cells #[.int .i64 a0_0, .int .i64 a0_1, .int .i64 a0_2] 48 (0, 0)) (zb71) hg (Kd.R_ne HO_6.out BK317.out (by decide))); have n1_ := Aside0.mk (hb); have n2_ := Aside0.mk (ho); clear BK317; clear HB; clear HO_6; have BK317 := n0_; have HB := n1_; have HO329 := n2_; clear n0_ n1_ n2_; clear ho hb hg hat; have hcz23_0 : w22.cell? ⟨gb317, 0, none⟩ = some (.int .i64 a0_0) := (blk_cell BK317.out 0).trans rfl; have hcz23_1 : w22.cell? ⟨gb317, 1, none⟩ = some (.int .i64 a0_1) := (blk_cell BK317.out 1).trans rfl; have hcz23_2 : w22.cell? ⟨gb317, 2, none⟩ = some (.int .i64 a0_2) := (blk_cell BK317.out 2).trans rfl; have hfz23_0 := blk_frozen BK317.out 0; have hfz23_1 := blk_frozen BK317.out 1; have hfz23_2 := blk_frozen BK317.out 2))
        repeat (go_quiet (first | ((with_reducible refine gate_builtin (b := .append) (xs := #[.tmp 49, .tmp 56]) rfl ?_); at_builtin; refine Kd.R_append k105 (w0 := w) w.heap.size rfl (.tmp 49) (.tmp 56) 51 105 (.agg #[(.int .i64 0), (.int .i64 0)]) 16 rfl Try.underlying51 info105 rfl (by decide) (by omega) u6 x6_1 (⟨x7_1, wrap64 (x7_1 + a0_1)⟩ : S105) [.int .i64 x7_1, .int .i64 (wrap64 (x7_1 + a0_1))] (fun _ => True) (fun _ => False) rfl rfl ?aP (fun _ hk => hk.elim) ?aF ?aO ?aB ?aS ?aL ?_; (case aP => exact k105_mkM _ _ _ (⟨x7_1, wrap64 (x7_1 + a0_1)⟩ : S105)); (case aB => exact (zb70)); (case aF => exact (fun _ _ => trivial)); (case aO => exact (zb42)); (case aS => exact (below_size (zb70))); (case aL => have := LMc20.out; omega); intro v328 w22 ho hb hg hat; rw [← Ny327.out] at ho; have n0_ := Aside0.mk (blk_grown (g := gb317) (o := .cells #[.int .i64 a0_0, .int .i64 a0_1, .int .i64 a0_2] 48 (0, 0)) (zb71) hg (Kd.R_ne HO_6.out BK317.out (by decide))); have n1_ := Aside0.mk (hb); have n2_ := Aside0.mk (ho); clear BK317; clear HB; clear HO_6; have BK317 := n0_; have HB := n1_; have HO329 := n2_; clear n0_ n1_ n2_; clear ho hb hg hat; have hcz23_0 : w22.cell? ⟨gb317, 0, none⟩ = some (.int .i64 a0_0) := (blk_cell BK317.out 0).trans rfl; have hcz23_1 : w22.cell? ⟨gb317, 1, none⟩ = some (.int .i64 a0_1) := (blk_cell BK317.out 1).trans rfl; have hcz23_2 : w22.cell? ⟨gb317, 2, none⟩ = some (.int .i64 a0_2) := (blk_cell BK317.out 2).trans rfl; have hfz23_0 := blk_frozen BK317.out 0; have hfz23_1 := blk_frozen BK317.out 1; have hfz23_2 := blk_frozen BK317.out 2)); try go_wp2_with (first | ((with_reducible refine gate_builtin (b := .append) (xs := #[.tmp 49, .tmp 56]) rfl ?_); at_builtin; refine Kd.R_append k105 (w0 := w) w.heap.size rfl (.tmp 49) (.tmp 56) 51 105 (.agg #[(.int .i64 0), (.int .i64 0)]) 16 rfl Try.underlying51 info105 rfl (by decide) (by omega) u6 x6_1 (⟨x7_1, wrap64 (x7_1 + a0_1)⟩ : S105) [.int .i64 x7_1, .int .i64 (wrap64 (x7_1 + a0_1))] (fun _ => True) (fun _ => False) rfl rfl ?aP (fun _ hk => hk.elim) ?aF ?aO ?aB ?aS ?aL ?_; (case aP => exact k105_mkM _ _ _ (⟨x7_1, wrap64 (x7_1 + a0_1)⟩ : S105)); (case aB => exact (zb70)); (case aF => exact (fun _ _ => trivial)); (case aO => exact (zb42)); (case aS => exact (below_size (zb70))); (case aL => have := LMc20.out; omega); intro v328 w22 ho hb hg hat; rw [← Ny327.out] at ho; have n0_ := Aside0.mk (blk_grown (g := gb317) (o := .cells #[.int .i64 a0_0, .int .i64 a0_1, .int .i64 a0_2] 48 (0, 0)) (zb71) hg (Kd.R_ne HO_6.out BK317.out (by decide))); have n1_ := Aside0.mk (hb); have n2_ := Aside0.mk (ho); clear BK317; clear HB; clear HO_6; have BK317 := n0_; have HB := n1_; have HO329 := n2_; clear n0_ n1_ n2_; clear ho hb hg hat; have hcz23_0 : w22.cell? ⟨gb317, 0, none⟩ = some (.int .i64 a0_0) := (blk_cell BK317.out 0).trans rfl; have hcz23_1 : w22.cell? ⟨gb317, 1, none⟩ = some (.int .i64 a0_1) := (blk_cell BK317.out 1).trans rfl; have hcz23_2 : w22.cell? ⟨gb317, 2, none⟩ = some (.int .i64 a0_2) := (blk_cell BK317.out 2).trans rfl; have hfz23_0 := blk_frozen BK317.out 0; have hfz23_1 := blk_frozen BK317.out 1; have hfz23_2 := blk_frozen BK317.out 2)))
        go_roundg k1
        case measure => have := HK1.out; omega
        case rel => exact ⟨(y327), (wrap64 (x7_1 + a0_2)), (zb1), H', ⟨zb48⟩, ⟨by (with_reducible repeat (first | apply Kd.R_alloc | apply Kd.R_drewN | apply Kd.R_drew)); exact HO329.out⟩, ⟨zb71⟩, ⟨zb70⟩⟩
       ·rw [if_neg c20] at H
        exact absurd H (by simp)
      ·rw [if_neg c19] at H
       have c19b0 : decide (a1 < (wrap64 (x7_1 + a0_1))) = false := decide_eq_false c19
       clear c19
       have H' := Aside0.mk H
       clear H
       have hcz24_0 : wr.cell? ⟨gb317, 0, none⟩ = some (.int .i64 a0_0) := (blk_cell BK317.out 0).trans rfl
       have hcz24_1 : wr.cell? ⟨gb317, 1, none⟩ = some (.int .i64 a0_1) := (blk_cell BK317.out 1).trans rfl
       have hcz24_2 : wr.cell? ⟨gb317, 2, none⟩ = some (.int .i64 a0_2) := (blk_cell BK317.out 2).trans rfl
       have hfz24_0 := blk_frozen BK317.out 0
       have hfz24_1 := blk_frozen BK317.out 1
       have hfz24_2 := blk_frozen BK317.out 2
       go_wp2
       repeat (go_quiet (fail); try go_wp2)
       go_roundg k1
       case measure => have := HK1.out; omega
       case rel => exact ⟨(x6_1), (wrap64 (x7_1 + a0_2)), (zb1), H', ⟨zb48⟩, ⟨zb42⟩, ⟨zb71⟩, ⟨zb70⟩⟩
     ·rw [if_neg c18] at H
      have c18b0 : decide (x7_1 ≤ a1) = false := decide_eq_false c18
      clear c18
      obtain rfl := Option.some.inj H
      go_wp2
      repeat (go_quiet (fail); try go_wp2)
      go_ret
      exact ⟨_, zb5, zb42, zb70⟩

/-! ### impl_Win_overlaps: function 130 -/
def impl_Win_overlaps.f (a0_0 : Int) (a0_1 : Int) (a1_0 : Int) (a1_1 : Int) : Option (Bool) := if a0_0 < a1_1 then (some (decide (a1_0 < a0_1))) else (some false)
set_option maxHeartbeats 8000000 in
set_option maxRecDepth 100000 in
theorem impl_Win_overlaps.calls (a0_0 : Int) (a0_1 : Int) (a1_0 : Int) (a1_1 : Int) (r : Bool) (w : World) (h : impl_Win_overlaps.f a0_0 a0_1 a1_0 a1_1 = some r) :
  Calls Try.prog 130 #[.agg #[.int .i64 a0_0, .int .i64 a0_1], .agg #[.int .i64 a1_0, .int .i64 a1_1]] w fun e w' => e = .returned (.bool r) ∧ Below w.heap.size w w' := by
 have hu105 := Try.underlying105
 have HB := Aside0.mk (Below.refl w.heap.size w)
 have H : (if a0_0 < a1_1 then (some (decide (a1_0 < a0_1))) else (some false)) = some r := h
 clear h
 by_cases c3 : a0_0 < a1_1
 ·rw [if_pos c3] at H
  have c3b0 : decide (a0_0 < a1_1) = true := decide_eq_true c3
  clear c3
  obtain rfl := Option.some.inj H
  go_enter Try.func130, Try.ntmps130
  go_wp2_with (first | ((with_reducible refine gate_dst (N := 2) rfl ?_); refine box_event ?hg (N := 2) ?hd (cs := #[.int .i64 a0_0, .int .i64 a0_1]) (t := 105) ?hr ?_; (case hd => rfl); (case hg => rfl); (case hr => first | (go_simp; done) | (go_simp; rfl)); intro gb330 hg w4 hbox hb; have n0_ := Aside0.mk (below_step (zb3) hb); have n1_ := Aside0.mk (hbox); have n2_ := Aside0.mk ((by rw [hg]; exact (below_size (zb3)) : w.heap.size ≤ gb330)); have n3_ := Aside0.mk ((by rw [hg]; exact (below_size (zb3)) : w.heap.size ≤ gb330)); clear HB; have HB := n0_; have BK330 := n1_; have GW330 := n2_; have GE330 := n3_; clear n0_ n1_ n2_ n3_; clear hb hbox hg) | ((with_reducible refine gate_dst (N := 3) rfl ?_); refine box_event ?hg (N := 3) ?hd (cs := #[.int .i64 a1_0, .int .i64 a1_1]) (t := 105) ?hr ?_; (case hd => rfl); (case hg => rfl); (case hr => first | (go_simp; done) | (go_simp; rfl)); intro gb331 hg w5 hbox hb; have n0_ := Aside0.mk (blk_below (g := gb330) (o := .cells #[.int .i64 a0_0, .int .i64 a0_1] 105 (0, 0)) (zb72) hb); have n1_ := Aside0.mk (below_step (zb73) hb); have n2_ := Aside0.mk (hbox); have n3_ := Aside0.mk ((by rw [hg]; exact (below_size (zb73)) : w.heap.size ≤ gb331)); have n4_ := Aside0.mk ((by rw [hg]; exact (below_size (zb73)) : w.heap.size ≤ gb331)); have n5_ := Aside0.mk ((by rw [hg]; exact Nat.ne_of_lt (blk_lt (g := gb330) (o := .cells #[.int .i64 a0_0, .int .i64 a0_1] 105 (0, 0)) (zb72)) : gb330 ≠ gb331)); have n6_ := Aside0.mk ((by rw [hg]; exact Nat.ne_of_gt (blk_lt (g := gb330) (o := .cells #[.int .i64 a0_0, .int .i64 a0_1] 105 (0, 0)) (zb72)) : gb331 ≠ gb330)); clear BK330; clear HB; have BK330 := n0_; have HB := n1_; have BK331 := n2_; have GW331 := n3_; have GE331 := n4_; have NB330_331 := n5_; have NB331_330 := n6_; clear n0_ n1_ n2_ n3_ n4_ n5_ n6_; clear hb hbox hg; have hnb6 := NB330_331.out; have hnc6 := NB331_330.out; have hcz7_0 : w5.cell? ⟨gb330, 0, none⟩ = some (.int .i64 a0_0) := (blk_cell BK330.out 0).trans rfl; have hcz7_1 : w5.cell? ⟨gb330, 1, none⟩ = some (.int .i64 a0_1) := (blk_cell BK330.out 1).trans rfl; have hfz7_0 := blk_frozen BK330.out 0; have hfz7_1 := blk_frozen BK330.out 1; have hcz8_0 : w5.cell? ⟨gb331, 0, none⟩ = some (.int .i64 a1_0) := (blk_cell BK331.out 0).trans rfl; have hcz8_1 : w5.cell? ⟨gb331, 1, none⟩ = some (.int .i64 a1_1) := (blk_cell BK331.out 1).trans rfl; have hfz8_0 := blk_frozen BK331.out 0; have hfz8_1 := blk_frozen BK331.out 1))
  go_ret
  exact ⟨zb5, zb74⟩
 ·rw [if_neg c3] at H
  have c3b0 : decide (a0_0 < a1_1) = false := decide_eq_false c3
  clear c3
  obtain rfl := Option.some.inj H
  go_enter Try.func130, Try.ntmps130
  go_wp2_with (first | ((with_reducible refine gate_dst (N := 2) rfl ?_); refine box_event ?hg (N := 2) ?hd (cs := #[.int .i64 a0_0, .int .i64 a0_1]) (t := 105) ?hr ?_; (case hd => rfl); (case hg => rfl); (case hr => first | (go_simp; done) | (go_simp; rfl)); intro gb330 hg w9 hbox hb; have n0_ := Aside0.mk (below_step (zb3) hb); have n1_ := Aside0.mk (hbox); have n2_ := Aside0.mk ((by rw [hg]; exact (below_size (zb3)) : w.heap.size ≤ gb330)); have n3_ := Aside0.mk ((by rw [hg]; exact (below_size (zb3)) : w.heap.size ≤ gb330)); clear HB; have HB := n0_; have BK330 := n1_; have GW330 := n2_; have GE330 := n3_; clear n0_ n1_ n2_ n3_; clear hb hbox hg) | ((with_reducible refine gate_dst (N := 3) rfl ?_); refine box_event ?hg (N := 3) ?hd (cs := #[.int .i64 a1_0, .int .i64 a1_1]) (t := 105) ?hr ?_; (case hd => rfl); (case hg => rfl); (case hr => first | (go_simp; done) | (go_simp; rfl)); intro gb331 hg w10 hbox hb; have n0_ := Aside0.mk (blk_below (g := gb330) (o := .cells #[.int .i64 a0_0, .int .i64 a0_1] 105 (0, 0)) (zb72) hb); have n1_ := Aside0.mk (below_step (zb73) hb); have n2_ := Aside0.mk (hbox); have n3_ := Aside0.mk ((by rw [hg]; exact (below_size (zb73)) : w.heap.size ≤ gb331)); have n4_ := Aside0.mk ((by rw [hg]; exact (below_size (zb73)) : w.heap.size ≤ gb331)); have n5_ := Aside0.mk ((by rw [hg]; exact Nat.ne_of_lt (blk_lt (g := gb330) (o := .cells #[.int .i64 a0_0, .int .i64 a0_1] 105 (0, 0)) (zb72)) : gb330 ≠ gb331)); have n6_ := Aside0.mk ((by rw [hg]; exact Nat.ne_of_gt (blk_lt (g := gb330) (o := .cells #[.int .i64 a0_0, .int .i64 a0_1] 105 (0, 0)) (zb72)) : gb331 ≠ gb330)); clear BK330; clear HB; have BK330 := n0_; have HB := n1_; have BK331 := n2_; have GW331 := n3_; have GE331 := n4_; have NB330_331 := n5_; have NB331_330 := n6_; clear n0_ n1_ n2_ n3_ n4_ n5_ n6_; clear hb hbox hg; have hnb11 := NB330_331.out; have hnc11 := NB331_330.out; have hcz12_0 : w10.cell? ⟨gb330, 0, none⟩ = some (.int .i64 a0_0) := (blk_cell BK330.out 0).trans rfl; have hcz12_1 : w10.cell? ⟨gb330, 1, none⟩ = some (.int .i64 a0_1) := (blk_cell BK330.out 1).trans rfl; have hfz12_0 := blk_frozen BK330.out 0; have hfz12_1 := blk_frozen BK330.out 1; have hcz13_0 : w10.cell? ⟨gb331, 0, none⟩ = some (.int .i64 a1_0) := (blk_cell BK331.out 0).trans rfl; have hcz13_1 : w10.cell? ⟨gb331, 1, none⟩ = some (.int .i64 a1_1) := (blk_cell BK331.out 1).trans rfl; have hfz13_0 := blk_frozen BK331.out 0; have hfz13_1 := blk_frozen BK331.out 1))
  go_ret
  exact ⟨zb5, zb74⟩

/-! ### impl_sessAdd: function 112 -/
def impl_sessAdd.l0 : Nat → List (S105) → Bool → List (S105) → Int → Int → Int → Int → Option ((List (S105)) × Bool)
 | 0, _, _, _, _, _, _, _ => none
 | k + 1, x6, x7, x11, x12, x13, x333000, x333001 => if x13 < x12 then (if 0 ≤ x13 then (if x13 < (x11.length : Int) then ((impl_Win_overlaps.f ((rd_T105 x11 x13).f0) ((rd_T105 x11 x13).f1) x333000 x333001).bind fun t341 => (if t341 = true then (impl_sessAdd.l0 k x6 x7 x11 x12 (wrap64 (x13 + 1)) (mn x333000 ((rd_T105 x11 x13).f0)) (mx x333001 ((rd_T105 x11 x13).f1))) else (if ((rd_T105 x11 x13).f0) ≥ x333001 then (if x7 = true then (if x6.length < 8796093022208 then (impl_sessAdd.l0 k (x6 ++ [(⟨(rd_T105 x11 x13).f0, (rd_T105 x11 x13).f1⟩ : S105)]) x7 x11 x12 (wrap64 (x13 + 1)) x333000 x333001) else (none)) else ((some (([(⟨x333000, x333001⟩ : S105), (⟨(rd_T105 x11 x13).f0, (rd_T105 x11 x13).f1⟩ : S105)] : List (S105)) : List (S105))).bind fun y345 => (if x6.length + y345.length < 8796093022208 then (impl_sessAdd.l0 k (x6 ++ y345) true x11 x12 (wrap64 (x13 + 1)) x333000 x333001) else (none)))) else (if x6.length < 8796093022208 then (impl_sessAdd.l0 k (x6 ++ [(⟨(rd_T105 x11 x13).f0, (rd_T105 x11 x13).f1⟩ : S105)]) x7 x11 x12 (wrap64 (x13 + 1)) x333000 x333001) else (none))))) else (none)) else (none)) else (if x7 = true then (some (x6, decide ((x6.length : Int) ≤ 300))) else (if x6.length < 8796093022208 then ((some (x6 ++ [(⟨x333000, x333001⟩ : S105)] : List (S105))).bind fun y336 => (some (y336, decide ((y336.length : Int) ≤ 300)))) else (none)))
def impl_sessAdd.f (k : Nat) (l0 : List (S105)) (a1_0 : Int) (a1_1 : Int) : Option ((List (S105)) × Bool) := impl_sessAdd.l0 k (([] : List (S105))) false l0 (l0.length : Int) 0 a1_0 a1_1
theorem impl_sessAdd.mono_l : ∀ k, (∀ y0 y1 y2 y3 y4 y5 y6, LeO (impl_sessAdd.l0 k y0 y1 y2 y3 y4 y5 y6) (impl_sessAdd.l0 (k + 1) y0 y1 y2 y3 y4 y5 y6))
 | 0 => fun _ _ _ _ _ _ _ r h => by simp [impl_sessAdd.l0] at h
 | k + 1 => by
  have ih0 := impl_sessAdd.mono_l k
  ·intro y0 y1 y2 y3 y4 y5 y6
   unfold impl_sessAdd.l0
   repeat' first
   | (with_reducible exact ih0 _ _ _ _ _ _ _)
   | (with_reducible exact LeO.refl _)
   | (with_reducible exact LeO.none _)
   | (with_reducible refine LeO.ite ?_ ?_)
   | (with_reducible refine LeO.bind ?_ (fun _ => ?_))
   | exact ih0 _ _ _ _ _ _ _
   | exact LeO.none _
   | refine LeO.ite ?_ ?_
   | refine LeO.bind ?_ (fun _ => ?_)
theorem impl_sessAdd.mono : ∀ a0 a1 a2 k, LeO (impl_sessAdd.f k a0 a1 a2) (impl_sessAdd.f (k + 1) a0 a1 a2) := by
 intro a0 a1 a2 k
 have ih0 := impl_sessAdd.mono_l k
 unfold impl_sessAdd.f
 repeat' first
   | (with_reducible exact ih0 _ _ _ _ _ _ _)
   | (with_reducible exact LeO.refl _)
   | (with_reducible exact LeO.none _)
   | (with_reducible refine LeO.ite ?_ ?_)
   | (with_reducible refine LeO.bind ?_ (fun _ => ?_))
   | exact ih0 _ _ _ _ _ _ _
   | exact LeO.none _
   | refine LeO.ite ?_ ?_
   | refine LeO.bind ?_ (fun _ => ?_)
set_option maxHeartbeats 8000000 in
set_option maxRecDepth 100000 in
theorem impl_sessAdd.calls (k : Nat) (A0 : Option Addr) (c0 : Nat) (l0 : List (S105)) (a1_0 : Int) (a1_1 : Int) (r1 : List (S105)) (r2 : Bool) (w : World) (hr0 : Kd.C k105 w A0 l0.length l0) (hc0 : l0.length ≤ c0) (h : impl_sessAdd.f k l0 a1_0 a1_1 = some (r1, r2)) :
  Calls Try.prog 112 #[.slice A0 l0.length c0, .agg #[.int .i64 a1_0, .int .i64 a1_1]] w fun e w' => ∃ v0_ : Value, e = .returned (.tuple #[v0_, .bool r2]) ∧ Kd.R k105 105 w' w.heap.size (fun _ => True) v0_ r1 ∧ Below w.heap.size w w' := by
 have hu105 := Try.underlying105
 have HR0 := Aside0.mk hr0
 have HC0 := Aside0.mk hc0
 clear hr0 hc0
 have HB := Aside0.mk (Below.refl w.heap.size w)
 have H : (impl_sessAdd.l0 k (([] : List (S105))) false l0 (l0.length : Int) 0 a1_0 a1_1) = some (r1, r2) := h
 clear h
 obtain ⟨y333, hy333⟩ : ∃ y_ : List (S105), y_ = (([] : List (S105))) := ⟨_, rfl⟩
 replace H : (impl_sessAdd.l0 k y333 false l0 (l0.length : Int) 0 a1_0 a1_1) = some (r1, r2) := by first | (rw [hy333]; with_reducible exact H) | (have H2_ := (Option.bind_some _ _).symm.trans H; rw [hy333]; with_reducible exact H2_) | (have H2_ := (Option.bind_some _ _).symm.trans H; with_reducible exact H2_) | with_reducible exact H | (rw [hy333]; exact H) | exact H
 have Ny333 := Aside0.mk hy333
 clear hy333
 have H' := Aside0.mk H
 clear H
 go_enter Try.func112, Try.ntmps112
 go_wp2_with (first | ((with_reducible refine gate_dst (N := 3) rfl ?_); refine box_event ?hg (N := 3) ?hd (cs := #[.int .i64 a1_0, .int .i64 a1_1]) (t := 105) ?hr ?_; (case hd => rfl); (case hg => rfl); (case hr => first | (go_simp; done) | (go_simp; rfl)); intro gb332 hg w3 hbox hb; have n0_ := Aside0.mk (below_step (zb3) hb); have n1_ := Aside0.mk (hbox); have n2_ := Aside0.mk ((by rw [hg]; exact (below_size (zb3)) : w.heap.size ≤ gb332)); have n3_ := Aside0.mk ((by rw [hg]; exact (below_size (zb3)) : w.heap.size ≤ gb332)); clear HB; have HB := n0_; have BK332 := n1_; have GW332 := n2_; have GE332 := n3_; clear n0_ n1_ n2_ n3_; clear hb hbox hg) | ((with_reducible refine gate_dst (N := 10) rfl ?_); refine Kd.R_lit k105 _ 105 ?hg (N := 10) ?hd (xs := ([] : List (S105))) (inner := []) (ok := fun _ => True) (okp := fun _ => True) ?hr ?hp (fun _ hk => hk) trivial (Below.refl _ _) (Nat.le_refl _) (by simp) ?_; (case hd => rfl); (case hg => rfl); (case hr => first | (go_simp; done) | (go_simp; rfl)); (case hp => exact (Reps.none _ _)); intro v334 w4 ho5 hb hg_ hnew_; clear hg_ hnew_; (first | rw [← Ny333.out] at ho5 | (simp only [Int.reduceToNat] at ho5; rw [← Ny333.out] at ho5)); have n0_ := Aside0.mk (Kd.R_lower (Kd.R_newB ho5 (g := gb332) (o := .cells #[.int .i64 a1_0, .int .i64 a1_1] 105 (0, 0)) (zb75)) (below_size (zb76))); have n1_ := Aside0.mk (blk_below (g := gb332) (o := .cells #[.int .i64 a1_0, .int .i64 a1_1] 105 (0, 0)) (zb75) hb); have n2_ := Aside0.mk (below_step (zb76) hb); clear BK332; clear HB; have HO335 := n0_; have BK332 := n1_; have HB := n2_; clear n0_ n1_ n2_; clear hb ho5))
 go_loopg [6, 7, 13] k (fun kq v6 v7 v13 w' => ∃ (x6_1 : List (S105)) (x7_1 : Bool) (x13_1 : Int) (x333000_1 : Int) (x333001_1 : Int), v7 = .bool x7_1 ∧ v13 = .int .i64 x13_1 ∧ Aside0 (impl_sessAdd.l0 kq x6_1 x7_1 l0 (l0.length : Int) x13_1 x333000_1 x333001_1 = some (r1, r2)) ∧ Aside0 (kq ≤ k) ∧ Aside0 (Kd.R k105 105 w' w.heap.size (fun k_ => k_ ≠ gb332) v6 x6_1) ∧ Aside0 (w'.heap[gb332]? = some (.cells #[.int .i64 x333000_1, .int .i64 x333001_1] 105 (0, 0))) ∧ Aside0 (Below w.heap.size w w'))
 case atStart => exact ⟨(y333), (false), (0), (a1_0), (a1_1), (zb1), (zb1), H', ⟨Nat.le_refl _⟩, ⟨by (with_reducible repeat (first | apply Kd.R_alloc | apply Kd.R_drewN | apply Kd.R_drew)); exact Kd.R_mono HO335.out (fun _ hk => hk.2)⟩, ⟨zb75⟩, ⟨zb76⟩⟩
 case round =>
  clear H'
  try clear c1
  try clear p2
  obtain ⟨x6_1, x7_1, x13_1, x333000_1, x333001_1, rfl, rfl, HA, HK1, HO_6, BK332, HB⟩ := hrel
  cases gk with
  | zero => exact absurd HA.out (by simp [impl_sessAdd.l0])
  | succ k1 =>
   have H := HA.out
   clear HA
   simp only [impl_sessAdd.l0] at H
   by_cases c6 : x13_1 < (l0.length : Int)
   ·rw [if_pos c6] at H
    have c6b0 : decide (x13_1 < (l0.length : Int)) = true := decide_eq_true c6
    clear c6
    by_cases c7 : 0 ≤ x13_1
    ·rw [if_pos c7] at H
     have c7b0 : decide (0 ≤ x13_1) = true := decide_eq_true c7
     clear c7
     by_cases c8 : x13_1 < (l0.length : Int)
     ·rw [if_pos c8] at H
      have c8b0 : decide (x13_1 < (l0.length : Int)) = true := decide_eq_true c8
      clear c8
      replace H := Option.bind_eq_some_iff.mp H
      obtain ⟨t341, A90, H⟩ := H
      replace H : (if t341 = true then (impl_sessAdd.l0 k1 x6_1 x7_1 l0 (l0.length : Int) (wrap64 (x13_1 + 1)) (mn x333000_1 ((rd_T105 l0 x13_1).f0)) (mx x333001_1 ((rd_T105 l0 x13_1).f1))) else (if ((rd_T105 l0 x13_1).f0) ≥ x333001_1 then (if x7_1 = true then (if x6_1.length < 8796093022208 then (impl_sessAdd.l0 k1 (x6_1 ++ [(⟨(rd_T105 l0 x13_1).f0, (rd_T105 l0 x13_1).f1⟩ : S105)]) x7_1 l0 (l0.length : Int) (wrap64 (x13_1 + 1)) x333000_1 x333001_1) else (none)) else ((some (([(⟨x333000_1, x333001_1⟩ : S105), (⟨(rd_T105 l0 x13_1).f0, (rd_T105 l0 x13_1).f1⟩ : S105)] : List (S105)) : List (S105))).bind fun y345 => (if x6_1.length + y345.length < 8796093022208 then (impl_sessAdd.l0 k1 (x6_1 ++ y345) true l0 (l0.length : Int) (wrap64 (x13_1 + 1)) x333000_1 x333001_1) else (none)))) else (if x6_1.length < 8796093022208 then (impl_sessAdd.l0 k1 (x6_1 ++ [(⟨(rd_T105 l0 x13_1).f0, (rd_T105 l0 x13_1).f1⟩ : S105)]) x7_1 l0 (l0.length : Int) (wrap64 (x13_1 + 1)) x333000_1 x333001_1) else (none)))) = some (r1, r2) := H
      have A9 := Aside0.mk A90
      clear A90
      by_cases c10 : t341 = true
      ·subst c10
       have H1 : (impl_sessAdd.l0 k1 x6_1 x7_1 l0 (l0.length : Int) (wrap64 (x13_1 + 1)) (mn x333000_1 ((rd_T105 l0 x13_1).f0)) (mx x333001_1 ((rd_T105 l0 x13_1).f1))) = some (r1, r2) := by rw [if_pos rfl] at H; exact H
       clear H
       have H := H1
       clear H1
       obtain ⟨ji11, hji11⟩ : ∃ j_ : Int, (mn x333000_1 ((rd_T105 l0 x13_1).f0)) = j_ := ⟨_, rfl⟩
       replace H : (impl_sessAdd.l0 k1 x6_1 x7_1 l0 (l0.length : Int) (wrap64 (x13_1 + 1)) ji11 (mx x333001_1 ((rd_T105 l0 x13_1).f1))) = some (r1, r2) := by first | (rw [hji11] at H; exact H) | (simp only [hji11] at H ⊢; exact H)
       (try rw [hji11] at A9)
       have hji11_ : (if ((rd_T105 l0 x13_1).f0) < x333000_1 then ((rd_T105 l0 x13_1).f0) else x333000_1) = ji11 := hji11
       obtain ⟨ji12, hji12⟩ : ∃ j_ : Int, (mx x333001_1 ((rd_T105 l0 x13_1).f1)) = j_ := ⟨_, rfl⟩
       replace H : (impl_sessAdd.l0 k1 x6_1 x7_1 l0 (l0.length : Int) (wrap64 (x13_1 + 1)) ji11 ji12) = some (r1, r2) := by first | (rw [hji12] at H; exact H) | (simp only [hji12] at H ⊢; exact H)
       (try rw [hji12] at A9)
       have hji12_ : (if x333001_1 < ((rd_T105 l0 x13_1).f1) then ((rd_T105 l0 x13_1).f1) else x333001_1) = ji12 := hji12
       have H' := Aside0.mk H
       clear H
       have p339 : 0 ≤ (x13_1 : Int) := of_decide_eq_true (zb9)
       have q339 : x13_1 < (l0.length : Int) := of_decide_eq_true (zb9)
       obtain ⟨ad339, e339, hx339_0, hx339_1⟩ := at_T105 HR0.out x13_1 p339 q339
       cases e339
       replace hx339_0 := (HB.out.cell (World.block_lt_of_cell? w _ hx339_0)).trans hx339_0
       replace hx339_1 := (HB.out.cell (World.block_lt_of_cell? w _ hx339_1)).trans hx339_1
       replace p339 := eq_true p339
       replace q339 := eq_true q339
       go_wp2_with (first | ((with_reducible refine gate_dst (N := 9) rfl ?_); refine box_event ?hg (N := 9) ?hd (cs := #[.int .i64 0, .int .i64 0]) (t := 105) ?hr ?_; (case hd => rfl); (case hg => rfl); (case hr => first | (go_simp; done) | (go_simp; rfl)); intro gb340 hg w13 hbox hb; have n0_ := Aside0.mk (Kd.R_below (Kd.R_elderB (zb42) gb340 (Nat.le_of_eq hg.symm)) hb); have n1_ := Aside0.mk (blk_below (g := gb332) (o := .cells #[.int .i64 x333000_1, .int .i64 x333001_1] 105 (0, 0)) (zb75) hb); have n2_ := Aside0.mk (below_step (zb76) hb); have n3_ := Aside0.mk (hbox); have n4_ := Aside0.mk ((by rw [hg]; exact (below_size (zb76)) : w.heap.size ≤ gb340)); have n5_ := Aside0.mk ((by rw [hg]; exact (below_size (zb76)) : w.heap.size ≤ gb340)); have n6_ := Aside0.mk ((by rw [hg]; exact Nat.ne_of_lt (blk_lt (g := gb332) (o := .cells #[.int .i64 x333000_1, .int .i64 x333001_1] 105 (0, 0)) (zb75)) : gb332 ≠ gb340)); have n7_ := Aside0.mk ((by rw [hg]; exact Nat.ne_of_gt (blk_lt (g := gb332) (o := .cells #[.int .i64 x333000_1, .int .i64 x333001_1] 105 (0, 0)) (zb75)) : gb340 ≠ gb332)); clear HO_6; clear BK332; clear HB; have HO_6 := n0_; have BK332 := n1_; have HB := n2_; have BK340 := n3_; have GW340 := n4_; have GE340 := n5_; have NB332_340 := n6_; have NB340_332 := n7_; clear n0_ n1_ n2_ n3_ n4_ n5_ n6_ n7_; clear hb hbox hg; have hnb14 := NB340_332.out; have hnc14 := NB332_340.out; have hcz15_0 : w13.cell? ⟨gb340, 0, none⟩ = some (.int .i64 0) := (blk_cell BK340.out 0).trans rfl; have hcz15_1 : w13.cell? ⟨gb340, 1, none⟩ = some (.int .i64 0) := (blk_cell BK340.out 1).trans rfl; have hfz15_0 := blk_frozen BK340.out 0; have hfz15_1 := blk_frozen BK340.out 1; have hcz16_0 : w13.cell? ⟨gb332, 0, none⟩ = some (.int .i64 x333000_1) := (blk_cell BK332.out 0).trans rfl; have hcz16_1 : w13.cell? ⟨gb332, 1, none⟩ = some (.int .i64 x333001_1) := (blk_cell BK332.out 1).trans rfl; have hfz16_0 := blk_frozen BK332.out 0; have hfz16_1 := blk_frozen BK332.out 1) | ((with_reducible refine gate_callee (f := 130) rfl ?_); refine goesL_ (some 24) rfl rfl Try.func130 (by kernel_rfl) rfl #[.agg #[.int .i64 ((rd_T105 l0 x13_1).f0), .int .i64 ((rd_T105 l0 x13_1).f1)], .agg #[.int .i64 x333000_1, .int .i64 x333001_1]] rfl (zb10) ?_; (with_reducible refine (impl_Win_overlaps.calls ((rd_T105 l0 x13_1).f0) ((rd_T105 l0 x13_1).f1) x333000_1 x333001_1 true _ A9.out).mono ?_); rintro e w17 ⟨rfl, hb⟩; refine ⟨_, rfl, ?_⟩; have n0_ := Aside0.mk (Kd.R_below (zb77) hb); have n1_ := Aside0.mk (blk_below (g := gb332) (o := .cells #[.int .i64 x333000_1, .int .i64 x333001_1] 105 (0, 0)) (zb78) hb); have n2_ := Aside0.mk (blk_below (g := gb340) (o := .cells #[.int .i64 ((rd_T105 l0 x13_1).f0), .int .i64 ((rd_T105 l0 x13_1).f1)] 105 (0, 0)) (zb79) hb); have n3_ := Aside0.mk (below_step (zb80) hb); clear HO_6; clear BK332; clear BK340; clear HB; have HO_6 := n0_; have BK332 := n1_; have BK340 := n2_; have HB := n3_; clear n0_ n1_ n2_ n3_; (try clear hb); (try clear hb2); (try clear hk); (try clear hi); have hcz18_0 : w17.cell? ⟨gb332, 0, none⟩ = some (.int .i64 x333000_1) := (blk_cell BK332.out 0).trans rfl; have hcz18_1 : w17.cell? ⟨gb332, 1, none⟩ = some (.int .i64 x333001_1) := (blk_cell BK332.out 1).trans rfl; have hfz18_0 := blk_frozen BK332.out 0; have hfz18_1 := blk_frozen BK332.out 1; have hcz19_0 : w17.cell? ⟨gb340, 0, none⟩ = some (.int .i64 ((rd_T105 l0 x13_1).f0)) := (blk_cell BK340.out 0).trans rfl; have hcz19_1 : w17.cell? ⟨gb340, 1, none⟩ = some (.int .i64 ((rd_T105 l0 x13_1).f1)) := (blk_cell BK340.out 1).trans rfl; have hfz19_0 := blk_frozen BK340.out 0; have hfz19_1 := blk_frozen BK340.out 1))
       go_roundg k1
       case measure => have := HK1.out; omega
       case rel => exact ⟨(x6_1), (x7_1), (wrap64 (x13_1 + 1)), (ji11), (ji12), (zb1), (zb1), H', ⟨zb48⟩, ⟨by (with_reducible repeat (first | apply Kd.R_alloc | apply Kd.R_drewN | apply Kd.R_drew)); exact Kd.R_mono (Kd.R_far (p := ⟨gb332, 1, none⟩) (Kd.R_far (p := ⟨gb332, 0, none⟩) (Kd.R_mono HO_6.out (fun k_ hk => (⟨hk, hk.1⟩ : _ ∧ k_ ≠ gb332))) (fun _ hk => hk.2) (.int .i64 ji11)) (fun _ hk => hk.2) (.int .i64 ji12)) (fun _ hk => hk.1.1)⟩, ⟨by (with_reducible repeat (first | refine blk_drewN ?_ _ | refine blk_drew ?_ | refine blk_alloc ?_ _)); refine blk_put (cs := #[.int .i64 ji11, .int .i64 x333001_1]) ?_ 1 _ rfl; (with_reducible repeat (first | refine blk_drewN ?_ _ | refine blk_drew ?_ | refine blk_alloc ?_ _)); refine blk_put (cs := #[.int .i64 x333000_1, .int .i64 x333001_1]) ?_ 0 _ rfl; (with_reducible repeat (first | refine blk_drewN ?_ _ | refine blk_drew ?_ | refine blk_alloc ?_ _)); exact BK332.out⟩, ⟨zb80⟩⟩
      ·replace c10 := Bool.eq_false_iff.mpr c10
       subst c10
       have H1 : (if ((rd_T105 l0 x13_1).f0) ≥ x333001_1 then (if x7_1 = true then (if x6_1.length < 8796093022208 then (impl_sessAdd.l0 k1 (x6_1 ++ [(⟨(rd_T105 l0 x13_1).f0, (rd_T105 l0 x13_1).f1⟩ : S105)]) x7_1 l0 (l0.length : Int) (wrap64 (x13_1 + 1)) x333000_1 x333001_1) else (none)) else ((some (([(⟨x333000_1, x333001_1⟩ : S105), (⟨(rd_T105 l0 x13_1).f0, (rd_T105 l0 x13_1).f1⟩ : S105)] : List (S105)) : List (S105))).bind fun y345 => (if x6_1.length + y345.length < 8796093022208 then (impl_sessAdd.l0 k1 (x6_1 ++ y345) true l0 (l0.length : Int) (wrap64 (x13_1 + 1)) x333000_1 x333001_1) else (none)))) else (if x6_1.length < 8796093022208 then (impl_sessAdd.l0 k1 (x6_1 ++ [(⟨(rd_T105 l0 x13_1).f0, (rd_T105 l0 x13_1).f1⟩ : S105)]) x7_1 l0 (l0.length : Int) (wrap64 (x13_1 + 1)) x333000_1 x333001_1) else (none))) = some (r1, r2) := by rw [if_neg (show ¬ (false = true) by decide)] at H; exact H
       clear H
       have H := H1
       clear H1
       by_cases c20 : ((rd_T105 l0 x13_1).f0) ≥ x333001_1
       ·rw [if_pos c20] at H
        have c20b0 : decide (x333001_1 ≤ ((rd_T105 l0 x13_1).f0)) = true := decide_eq_true c20
        clear c20
        by_cases c21 : x7_1 = true
        ·subst c21
         have H1 : (if x6_1.length < 8796093022208 then (impl_sessAdd.l0 k1 (x6_1 ++ [(⟨(rd_T105 l0 x13_1).f0, (rd_T105 l0 x13_1).f1⟩ : S105)]) true l0 (l0.length : Int) (wrap64 (x13_1 + 1)) x333000_1 x333001_1) else (none)) = some (r1, r2) := by rw [if_pos rfl] at H; exact H
         clear H
         have H := H1
         clear H1
         by_cases c22 : x6_1.length < 8796093022208
         ·rw [if_pos c22] at H
          have LMc22 := Aside0.mk c22
          clear c22
          obtain ⟨y342, hy342⟩ : ∃ y_ : List (S105), y_ = (x6_1 ++ [(⟨(rd_T105 l0 x13_1).f0, (rd_T105 l0 x13_1).f1⟩ : S105)]) := ⟨_, rfl⟩
          replace H : (impl_sessAdd.l0 k1 y342 true l0 (l0.length : Int) (wrap64 (x13_1 + 1)) x333000_1 x333001_1) = some (r1, r2) := by first | (rw [hy342]; with_reducible exact H) | (have H2_ := (Option.bind_some _ _).symm.trans H; rw [hy342]; with_reducible exact H2_) | (have H2_ := (Option.bind_some _ _).symm.trans H; with_reducible exact H2_) | with_reducible exact H | (rw [hy342]; exact H) | exact H
          have Ny342 := Aside0.mk hy342
          clear hy342
          have H' := Aside0.mk H
          clear H
          have p339 : 0 ≤ (x13_1 : Int) := of_decide_eq_true (zb9)
          have q339 : x13_1 < (l0.length : Int) := of_decide_eq_true (zb9)
          obtain ⟨ad339, e339, hx339_0, hx339_1⟩ := at_T105 HR0.out x13_1 p339 q339
          cases e339
          replace hx339_0 := (HB.out.cell (World.block_lt_of_cell? w _ hx339_0)).trans hx339_0
          replace hx339_1 := (HB.out.cell (World.block_lt_of_cell? w _ hx339_1)).trans hx339_1
          replace p339 := eq_true p339
          replace q339 := eq_true q339
          go_wp2_with (first | ((with_reducible refine gate_dst (N := 9) rfl ?_); refine box_event ?hg (N := 9) ?hd (cs := #[.int .i64 0, .int .i64 0]) (t := 105) ?hr ?_; (case hd => rfl); (case hg => rfl); (case hr => first | (go_simp; done) | (go_simp; rfl)); intro gb340 hg w23 hbox hb; have n0_ := Aside0.mk (Kd.R_below (Kd.R_elderB (zb42) gb340 (Nat.le_of_eq hg.symm)) hb); have n1_ := Aside0.mk (blk_below (g := gb332) (o := .cells #[.int .i64 x333000_1, .int .i64 x333001_1] 105 (0, 0)) (zb75) hb); have n2_ := Aside0.mk (below_step (zb76) hb); have n3_ := Aside0.mk (hbox); have n4_ := Aside0.mk ((by rw [hg]; exact (below_size (zb76)) : w.heap.size ≤ gb340)); have n5_ := Aside0.mk ((by rw [hg]; exact (below_size (zb76)) : w.heap.size ≤ gb340)); have n6_ := Aside0.mk ((by rw [hg]; exact Nat.ne_of_lt (blk_lt (g := gb332) (o := .cells #[.int .i64 x333000_1, .int .i64 x333001_1] 105 (0, 0)) (zb75)) : gb332 ≠ gb340)); have n7_ := Aside0.mk ((by rw [hg]; exact Nat.ne_of_gt (blk_lt (g := gb332) (o := .cells #[.int .i64 x333000_1, .int .i64 x333001_1] 105 (0, 0)) (zb75)) : gb340 ≠ gb332)); clear HO_6; clear BK332; clear HB; have HO_6 := n0_; have BK332 := n1_; have HB := n2_; have BK340 := n3_; have GW340 := n4_; have GE340 := n5_; have NB332_340 := n6_; have NB340_332 := n7_; clear n0_ n1_ n2_ n3_ n4_ n5_ n6_ n7_; clear hb hbox hg; have hnb24 := NB340_332.out; have hnc24 := NB332_340.out; have hcz25_0 : w23.cell? ⟨gb340, 0, none⟩ = some (.int .i64 0) := (blk_cell BK340.out 0).trans rfl; have hcz25_1 : w23.cell? ⟨gb340, 1, none⟩ = some (.int .i64 0) := (blk_cell BK340.out 1).trans rfl; have hfz25_0 := blk_frozen BK340.out 0; have hfz25_1 := blk_frozen BK340.out 1; have hcz26_0 : w23.cell? ⟨gb332, 0, none⟩ = some (.int .i64 x333000_1) := (blk_cell BK332.out 0).trans rfl; have hcz26_1 : w23.cell? ⟨gb332, 1, none⟩ = some (.int .i64 x333001_1) := (blk_cell BK332.out 1).trans rfl; have hfz26_0 := blk_frozen BK332.out 0; have hfz26_1 := blk_frozen BK332.out 1) | ((with_reducible refine gate_callee (f := 130) rfl ?_); refine goesL_ (some 24) rfl rfl Try.func130 (by kernel_rfl) rfl #[.agg #[.int .i64 ((rd_T105 l0 x13_1).f0), .int .i64 ((rd_T105 l0 x13_1).f1)], .agg #[.int .i64 x333000_1, .int .i64 x333001_1]] rfl (zb10) ?_; (with_reducible refine (impl_Win_overlaps.calls ((rd_T105 l0 x13_1).f0) ((rd_T105 l0 x13_1).f1) x333000_1 x333001_1 false _ A9.out).mono ?_); rintro e w27 ⟨rfl, hb⟩; refine ⟨_, rfl, ?_⟩; have n0_ := Aside0.mk (Kd.R_below (zb77) hb); have n1_ := Aside0.mk (blk_below (g := gb332) (o := .cells #[.int .i64 x333000_1, .int .i64 x333001_1] 105 (0, 0)) (zb78) hb); have n2_ := Aside0.mk (blk_below (g := gb340) (o := .cells #[.int .i64 ((rd_T105 l0 x13_1).f0), .int .i64 ((rd_T105 l0 x13_1).f1)] 105 (0, 0)) (zb79) hb); have n3_ := Aside0.mk (below_step (zb80) hb); clear HO_6; clear BK332; clear BK340; clear HB; have HO_6 := n0_; have BK332 := n1_; have BK340 := n2_; have HB := n3_; clear n0_ n1_ n2_ n3_; (try clear hb); (try clear hb2); (try clear hk); (try clear hi); have hcz28_0 : w27.cell? ⟨gb340, 0, none⟩ = some (.int .i64 ((rd_T105 l0 x13_1).f0)) := (blk_cell BK340.out 0).trans rfl; have hcz28_1 : w27.cell? ⟨gb340, 1, none⟩ = some (.int .i64 ((rd_T105 l0 x13_1).f1)) := (blk_cell BK340.out 1).trans rfl; have hfz28_0 := blk_frozen BK340.out 0; have hfz28_1 := blk_frozen BK340.out 1; have hcz29_0 : w27.cell? ⟨gb332, 0, none⟩ = some (.int .i64 x333000_1) := (blk_cell BK332.out 0).trans rfl; have hcz29_1 : w27.cell? ⟨gb332, 1, none⟩ = some (.int .i64 x333001_1) := (blk_cell BK332.out 1).trans rfl; have hfz29_0 := blk_frozen BK332.out 0; have hfz29_1 := blk_frozen BK332.out 1) | ((with_reducible refine gate_builtin (b := .append) (xs := #[.tmp 17, .tmp 19]) rfl ?_); at_builtin; refine Kd.R_append k105 (w0 := w) w.heap.size rfl (.tmp 17) (.tmp 19) 51 105 (.agg #[(.int .i64 0), (.int .i64 0)]) 16 rfl Try.underlying51 info105 rfl (by decide) (by omega) u6 x6_1 (⟨(rd_T105 l0 x13_1).f0, (rd_T105 l0 x13_1).f1⟩ : S105) [.int .i64 ((rd_T105 l0 x13_1).f0), .int .i64 ((rd_T105 l0 x13_1).f1)] (fun k_ => k_ ≠ gb332 ∧ k_ ≠ gb340) (fun _ => False) rfl rfl ?aP (fun _ hk => hk.elim) ?aF ?aO ?aB ?aS ?aL ?_; (case aP => exact k105_mkM _ _ _ (⟨(rd_T105 l0 x13_1).f0, (rd_T105 l0 x13_1).f1⟩ : S105)); (case aB => exact (zb80)); (case aF => exact (fun k_ hk => ⟨Kd.freshB (g := gb332) (o := .cells #[.int .i64 x333000_1, .int .i64 x333001_1] 105 (0, 0)) (zb75) k_ hk, Kd.freshB (g := gb340) (o := .cells #[.int .i64 ((rd_T105 l0 x13_1).f0), .int .i64 ((rd_T105 l0 x13_1).f1)] 105 (0, 0)) (zb81) k_ hk⟩)); (case aO => exact (zb42)); (case aS => exact (below_size (zb80))); (case aL => have := LMc22.out; omega); intro v343 w30 ho hb hg hat; rw [← Ny342.out] at ho; have n0_ := Aside0.mk (blk_grown (g := gb332) (o := .cells #[.int .i64 x333000_1, .int .i64 x333001_1] 105 (0, 0)) (zb75) hg (Kd.R_away HO_6.out (fun _ hk => hk.1))); have n1_ := Aside0.mk (blk_grown (g := gb340) (o := .cells #[.int .i64 ((rd_T105 l0 x13_1).f0), .int .i64 ((rd_T105 l0 x13_1).f1)] 105 (0, 0)) (zb81) hg (Kd.R_away HO_6.out (fun _ hk => hk.2))); have n2_ := Aside0.mk (hb); have n3_ := Aside0.mk (ho); clear BK332; clear BK340; clear HB; clear HO_6; have BK332 := n0_; have BK340 := n1_; have HB := n2_; have HO344 := n3_; clear n0_ n1_ n2_ n3_; clear ho hb hg hat))
          go_roundg k1
          case measure => have := HK1.out; omega
          case rel => exact ⟨(y342), (true), (wrap64 (x13_1 + 1)), (x333000_1), (x333001_1), (zb1), (zb1), H', ⟨zb48⟩, ⟨by (with_reducible repeat (first | apply Kd.R_alloc | apply Kd.R_drewN | apply Kd.R_drew)); exact Kd.R_mono HO344.out (fun _ hk => hk.1)⟩, ⟨zb75⟩, ⟨zb80⟩⟩
         ·rw [if_neg c22] at H
          exact absurd H (by simp)
        ·replace c21 := Bool.eq_false_iff.mpr c21
         subst c21
         have H1 : ((some (([(⟨x333000_1, x333001_1⟩ : S105), (⟨(rd_T105 l0 x13_1).f0, (rd_T105 l0 x13_1).f1⟩ : S105)] : List (S105)) : List (S105))).bind fun y345 => (if x6_1.length + y345.length < 8796093022208 then (impl_sessAdd.l0 k1 (x6_1 ++ y345) true l0 (l0.length : Int) (wrap64 (x13_1 + 1)) x333000_1 x333001_1) else (none))) = some (r1, r2) := by rw [if_neg (show ¬ (false = true) by decide)] at H; exact H
         clear H
         have H := H1
         clear H1
         obtain ⟨y345, hy345⟩ : ∃ y_ : List (S105), y_ = (([(⟨x333000_1, x333001_1⟩ : S105), (⟨(rd_T105 l0 x13_1).f0, (rd_T105 l0 x13_1).f1⟩ : S105)] : List (S105))) := ⟨_, rfl⟩
         replace H : (if x6_1.length + y345.length < 8796093022208 then (impl_sessAdd.l0 k1 (x6_1 ++ y345) true l0 (l0.length : Int) (wrap64 (x13_1 + 1)) x333000_1 x333001_1) else (none)) = some (r1, r2) := by first | (rw [hy345]; with_reducible exact H) | (have H2_ := (Option.bind_some _ _).symm.trans H; rw [hy345]; with_reducible exact H2_) | (have H2_ := (Option.bind_some _ _).symm.trans H; with_reducible exact H2_) | with_reducible exact H | (rw [hy345]; exact H) | exact H
         have Ny345 := Aside0.mk hy345
         clear hy345
         by_cases c31 : x6_1.length + y345.length < 8796093022208
         ·rw [if_pos c31] at H
          have LMc31 := Aside0.mk c31
          clear c31
          obtain ⟨y348, hy348⟩ : ∃ y_ : List (S105), y_ = (x6_1 ++ y345) := ⟨_, rfl⟩
          replace H : (impl_sessAdd.l0 k1 y348 true l0 (l0.length : Int) (wrap64 (x13_1 + 1)) x333000_1 x333001_1) = some (r1, r2) := by first | (rw [hy348]; with_reducible exact H) | (have H2_ := (Option.bind_some _ _).symm.trans H; rw [hy348]; with_reducible exact H2_) | (have H2_ := (Option.bind_some _ _).symm.trans H; with_reducible exact H2_) | with_reducible exact H | (rw [hy348]; exact H) | exact H
          have Ny348 := Aside0.mk hy348
          clear hy348
          have H' := Aside0.mk H
          clear H
          have p339 : 0 ≤ (x13_1 : Int) := of_decide_eq_true (zb9)
          have q339 : x13_1 < (l0.length : Int) := of_decide_eq_true (zb9)
          obtain ⟨ad339, e339, hx339_0, hx339_1⟩ := at_T105 HR0.out x13_1 p339 q339
          cases e339
          replace hx339_0 := (HB.out.cell (World.block_lt_of_cell? w _ hx339_0)).trans hx339_0
          replace hx339_1 := (HB.out.cell (World.block_lt_of_cell? w _ hx339_1)).trans hx339_1
          replace p339 := eq_true p339
          replace q339 := eq_true q339
          go_wp2_with (first | ((with_reducible refine gate_dst (N := 9) rfl ?_); refine box_event ?hg (N := 9) ?hd (cs := #[.int .i64 0, .int .i64 0]) (t := 105) ?hr ?_; (case hd => rfl); (case hg => rfl); (case hr => first | (go_simp; done) | (go_simp; rfl)); intro gb340 hg w32 hbox hb; have n0_ := Aside0.mk (Kd.R_below (Kd.R_elderB (zb42) gb340 (Nat.le_of_eq hg.symm)) hb); have n1_ := Aside0.mk (blk_below (g := gb332) (o := .cells #[.int .i64 x333000_1, .int .i64 x333001_1] 105 (0, 0)) (zb75) hb); have n2_ := Aside0.mk (below_step (zb76) hb); have n3_ := Aside0.mk (hbox); have n4_ := Aside0.mk ((by rw [hg]; exact (below_size (zb76)) : w.heap.size ≤ gb340)); have n5_ := Aside0.mk ((by rw [hg]; exact (below_size (zb76)) : w.heap.size ≤ gb340)); have n6_ := Aside0.mk ((by rw [hg]; exact Nat.ne_of_lt (blk_lt (g := gb332) (o := .cells #[.int .i64 x333000_1, .int .i64 x333001_1] 105 (0, 0)) (zb75)) : gb332 ≠ gb340)); have n7_ := Aside0.mk ((by rw [hg]; exact Nat.ne_of_gt (blk_lt (g := gb332) (o := .cells #[.int .i64 x333000_1, .int .i64 x333001_1] 105 (0, 0)) (zb75)) : gb340 ≠ gb332)); clear HO_6; clear BK332; clear HB; have HO_6 := n0_; have BK332 := n1_; have HB := n2_; have BK340 := n3_; have GW340 := n4_; have GE340 := n5_; have NB332_340 := n6_; have NB340_332 := n7_; clear n0_ n1_ n2_ n3_ n4_ n5_ n6_ n7_; clear hb hbox hg; have hnb33 := NB340_332.out; have hnc33 := NB332_340.out; have hcz34_0 : w32.cell? ⟨gb340, 0, none⟩ = some (.int .i64 0) := (blk_cell BK340.out 0).trans rfl; have hcz34_1 : w32.cell? ⟨gb340, 1, none⟩ = some (.int .i64 0) := (blk_cell BK340.out 1).trans rfl; have hfz34_0 := blk_frozen BK340.out 0; have hfz34_1 := blk_frozen BK340.out 1; have hcz35_0 : w32.cell? ⟨gb332, 0, none⟩ = some (.int .i64 x333000_1) := (blk_cell BK332.out 0).trans rfl; have hcz35_1 : w32.cell? ⟨gb332, 1, none⟩ = some (.int .i64 x333001_1) := (blk_cell BK332.out 1).trans rfl; have hfz35_0 := blk_frozen BK332.out 0; have hfz35_1 := blk_frozen BK332.out 1) | ((with_reducible refine gate_callee (f := 130) rfl ?_); refine goesL_ (some 24) rfl rfl Try.func130 (by kernel_rfl) rfl #[.agg #[.int .i64 ((rd_T105 l0 x13_1).f0), .int .i64 ((rd_T105 l0 x13_1).f1)], .agg #[.int .i64 x333000_1, .int .i64 x333001_1]] rfl (zb10) ?_; (with_reducible refine (impl_Win_overlaps.calls ((rd_T105 l0 x13_1).f0) ((rd_T105 l0 x13_1).f1) x333000_1 x333001_1 false _ A9.out).mono ?_); rintro e w36 ⟨rfl, hb⟩; refine ⟨_, rfl, ?_⟩; have n0_ := Aside0.mk (Kd.R_below (zb77) hb); have n1_ := Aside0.mk (blk_below (g := gb332) (o := .cells #[.int .i64 x333000_1, .int .i64 x333001_1] 105 (0, 0)) (zb78) hb); have n2_ := Aside0.mk (blk_below (g := gb340) (o := .cells #[.int .i64 ((rd_T105 l0 x13_1).f0), .int .i64 ((rd_T105 l0 x13_1).f1)] 105 (0, 0)) (zb79) hb); have n3_ := Aside0.mk (below_step (zb80) hb); clear HO_6; clear BK332; clear BK340; clear HB; have HO_6 := n0_; have BK332 := n1_; have BK340 := n2_; have HB := n3_; clear n0_ n1_ n2_ n3_; (try clear hb); (try clear hb2); (try clear hk); (try clear hi); have hcz37_0 : w36.cell? ⟨gb340, 0, none⟩ = some (.int .i64 ((rd_T105 l0 x13_1).f0)) := (blk_cell BK340.out 0).trans rfl; have hcz37_1 : w36.cell? ⟨gb340, 1, none⟩ = some (.int .i64 ((rd_T105 l0 x13_1).f1)) := (blk_cell BK340.out 1).trans rfl; have hfz37_0 := blk_frozen BK340.out 0; have hfz37_1 := blk_frozen BK340.out 1; have hcz38_0 : w36.cell? ⟨gb332, 0, none⟩ = some (.int .i64 x333000_1) := (blk_cell BK332.out 0).trans rfl; have hcz38_1 : w36.cell? ⟨gb332, 1, none⟩ = some (.int .i64 x333001_1) := (blk_cell BK332.out 1).trans rfl; have hfz38_0 := blk_frozen BK332.out 0; have hfz38_1 := blk_frozen BK332.out 1) | ((with_reducible refine gate_dst (N := 49) rfl ?_); refine Kd.R_lit k105 _ 105 ?hg (N := 49) ?hd (xs := ([(⟨x333000_1, x333001_1⟩ : S105), (⟨(rd_T105 l0 x13_1).f0, (rd_T105 l0 x13_1).f1⟩ : S105)] : List (S105))) (inner := [.int .i64 x333000_1, .int .i64 x333001_1, .int .i64 ((rd_T105 l0 x13_1).f0), .int .i64 ((rd_T105 l0 x13_1).f1)]) (ok := fun _ => True) (okp := fun _ => True) ?hr ?hp (fun _ hk => hk) trivial (Below.refl _ _) (Nat.le_refl _) (by simp) ?_; (case hd => rfl); (case hg => rfl); (case hr => first | (go_simp; done) | (go_simp; rfl)); (case hp => exact (Reps.c2 (show Kd.M k105 _ _ _ (⟨x333000_1, x333001_1⟩ : S105) [.int .i64 x333000_1, .int .i64 x333001_1] from (k105_mkM _ _ _ (⟨x333000_1, x333001_1⟩ : S105) )) (Reps.c2 (show Kd.M k105 _ _ _ (⟨(rd_T105 l0 x13_1).f0, (rd_T105 l0 x13_1).f1⟩ : S105) [.int .i64 ((rd_T105 l0 x13_1).f0), .int .i64 ((rd_T105 l0 x13_1).f1)] from (k105_mkM _ _ _ (⟨(rd_T105 l0 x13_1).f0, (rd_T105 l0 x13_1).f1⟩ : S105) )) (Reps.none _ _)))); intro v346 w39 ho40 hb hg_ hnew_; clear hg_ hnew_; (first | rw [← Ny345.out] at ho40 | (simp only [Int.reduceToNat] at ho40; rw [← Ny345.out] at ho40)); have n0_ := Aside0.mk (Kd.R_elder' (zb42) (Kd.R_base ho40) hb); have n1_ := Aside0.mk (Kd.R_lower (Kd.R_newB (Kd.R_newB (Kd.R_new' ho40 (Kd.R_lt (zb42))) (g := gb332) (o := .cells #[.int .i64 x333000_1, .int .i64 x333001_1] 105 (0, 0)) (zb75)) (g := gb340) (o := .cells #[.int .i64 ((rd_T105 l0 x13_1).f0), .int .i64 ((rd_T105 l0 x13_1).f1)] 105 (0, 0)) (zb81)) (below_size (zb80))); have n2_ := Aside0.mk (blk_below (g := gb332) (o := .cells #[.int .i64 x333000_1, .int .i64 x333001_1] 105 (0, 0)) (zb75) hb); have n3_ := Aside0.mk (blk_below (g := gb340) (o := .cells #[.int .i64 ((rd_T105 l0 x13_1).f0), .int .i64 ((rd_T105 l0 x13_1).f1)] 105 (0, 0)) (zb81) hb); have n4_ := Aside0.mk (below_step (zb80) hb); clear HO_6; clear BK332; clear BK340; clear HB; have HO_6 := n0_; have HO347 := n1_; have BK332 := n2_; have BK340 := n3_; have HB := n4_; clear n0_ n1_ n2_ n3_ n4_; clear hb ho40; obtain ⟨Ao42, co42, eo42⟩ := Kd.R_slice HO347.out; subst eo42) | ((with_reducible refine gate_builtin (b := .append) (xs := #[.tmp 46, .tmp 49]) rfl ?_); at_builtin; refine Kd.R_append_rows k105 (w0 := w) w.heap.size rfl (.tmp 46) (.tmp 49) 51 105 (.agg #[(.int .i64 0), (.int .i64 0)]) 16 rfl Try.underlying51 info105 rfl (by decide) (by omega) u6 x6_1 y345 _ _ _ (fun k_ => some k_ ≠ (.slice Ao42 y345.length co42 : Value).ownBlock ∧ k_ ≠ gb332 ∧ k_ ≠ gb340) (fun _ => False) rfl rfl ?aO ?aR (fun _ _ h => h) (fun _ h => h.elim) ?aF ?aB ?aS ?aL ?_; (case aR => repeat (first | exact (Kd.R_reads' HO347.out).2.2 | (with_reducible refine Kd.C_alloc ?_ _) | (with_reducible refine Kd.C_drewN ?_ _) | (with_reducible refine Kd.C_drew ?_))); (case aB => exact (zb80)); (case aF => exact (fun k_ hk => ⟨Kd.fresh' (Kd.R_lt (by (with_reducible repeat (first | apply Kd.R_alloc | apply Kd.R_drewN | apply Kd.R_drew)); exact HO347.out)) k_ hk, Kd.freshB (g := gb332) (o := .cells #[.int .i64 x333000_1, .int .i64 x333001_1] 105 (0, 0)) (zb75) k_ hk, Kd.freshB (g := gb340) (o := .cells #[.int .i64 ((rd_T105 l0 x13_1).f0), .int .i64 ((rd_T105 l0 x13_1).f1)] 105 (0, 0)) (zb81) k_ hk⟩)); (case aO => exact (by (with_reducible repeat (first | apply Kd.R_alloc | apply Kd.R_drewN | apply Kd.R_drew)); exact Kd.R_mono HO_6.out (fun _ hk => ⟨hk.2, ⟨hk.1.1, hk.1.2⟩⟩))); (case aS => exact (below_size (zb80))); (case aL => have := LMc31.out; omega); intro v349 w41 ho hb hg hat; rw [← Ny348.out] at ho; have n0_ := Aside0.mk (blk_grown (g := gb332) (o := .cells #[.int .i64 x333000_1, .int .i64 x333001_1] 105 (0, 0)) (zb75) hg (Kd.R_away HO_6.out (fun _ hk => hk.1.1))); have n1_ := Aside0.mk (blk_grown (g := gb340) (o := .cells #[.int .i64 ((rd_T105 l0 x13_1).f0), .int .i64 ((rd_T105 l0 x13_1).f1)] 105 (0, 0)) (zb81) hg (Kd.R_away HO_6.out (fun _ hk => hk.1.2))); have n2_ := Aside0.mk (Kd.R_after (ok := (fun k_ => k_ ≠ gb332 ∧ k_ ≠ gb340)) (by (with_reducible repeat (first | apply Kd.R_alloc | apply Kd.R_drewN | apply Kd.R_drew)); exact Kd.R_mono HO347.out (fun _ hk => ⟨⟨hk.1.2, hk.2⟩, hk.1.1.2⟩)) hg hat); have n3_ := Aside0.mk (hb); have n4_ := Aside0.mk (ho); clear BK332; clear BK340; clear HO347; clear HB; clear HO_6; have BK332 := n0_; have BK340 := n1_; have HO347 := n2_; have HB := n3_; have HO350 := n4_; clear n0_ n1_ n2_ n3_ n4_; clear ho hb hg hat))
          go_roundg k1
          case measure => have := HK1.out; omega
          case rel => exact ⟨(y348), (true), (wrap64 (x13_1 + 1)), (x333000_1), (x333001_1), (zb1), (zb1), H', ⟨zb48⟩, ⟨by (with_reducible repeat (first | apply Kd.R_alloc | apply Kd.R_drewN | apply Kd.R_drew)); exact Kd.R_mono HO350.out (fun _ hk => hk.2.1)⟩, ⟨zb75⟩, ⟨zb80⟩⟩
         ·rw [if_neg c31] at H
          exact absurd H (by simp)
       ·rw [if_neg c20] at H
        have c20b0 : decide (x333001_1 ≤ ((rd_T105 l0 x13_1).f0)) = false := decide_eq_false c20
        clear c20
        by_cases c43 : x6_1.length < 8796093022208
        ·rw [if_pos c43] at H
         have LMc43 := Aside0.mk c43
         clear c43
         obtain ⟨y351, hy351⟩ : ∃ y_ : List (S105), y_ = (x6_1 ++ [(⟨(rd_T105 l0 x13_1).f0, (rd_T105 l0 x13_1).f1⟩ : S105)]) := ⟨_, rfl⟩
         replace H : (impl_sessAdd.l0 k1 y351 x7_1 l0 (l0.length : Int) (wrap64 (x13_1 + 1)) x333000_1 x333001_1) = some (r1, r2) := by first | (rw [hy351]; with_reducible exact H) | (have H2_ := (Option.bind_some _ _).symm.trans H; rw [hy351]; with_reducible exact H2_) | (have H2_ := (Option.bind_some _ _).symm.trans H; with_reducible exact H2_) | with_reducible exact H | (rw [hy351]; exact H) | exact H
         have Ny351 := Aside0.mk hy351
         clear hy351
         have H' := Aside0.mk H
         clear H
         have p339 : 0 ≤ (x13_1 : Int) := of_decide_eq_true (zb9)
         have q339 : x13_1 < (l0.length : Int) := of_decide_eq_true (zb9)
         obtain ⟨ad339, e339, hx339_0, hx339_1⟩ := at_T105 HR0.out x13_1 p339 q339
         cases e339
         replace hx339_0 := (HB.out.cell (World.block_lt_of_cell? w _ hx339_0)).trans hx339_0
         replace hx339_1 := (HB.out.cell (World.block_lt_of_cell? w _ hx339_1)).trans hx339_1
         replace p339 := eq_true p339
         replace q339 := eq_true q339
         go_wp2_with (first | ((with_reducible refine gate_dst (N := 9) rfl ?_); refine box_event ?hg (N := 9) ?hd (cs := #[.int .i64 0, .int .i64 0]) (t := 105) ?hr ?_; (case hd => rfl); (case hg => rfl); (case hr => first | (go_simp; done) | (go_simp; rfl)); intro gb340 hg w44 hbox hb; have n0_ := Aside0.mk (Kd.R_below (Kd.R_elderB (zb42) gb340 (Nat.le_of_eq hg.symm)) hb); have n1_ := Aside0.mk (blk_below (g := gb332) (o := .cells #[.int .i64 x333000_1, .int .i64 x333001_1] 105 (0, 0)) (zb75) hb); have n2_ := Aside0.mk (below_step (zb76) hb); have n3_ := Aside0.mk (hbox); have n4_ := Aside0.mk ((by rw [hg]; exact (below_size (zb76)) : w.heap.size ≤ gb340)); have n5_ := Aside0.mk ((by rw [hg]; exact (below_size (zb76)) : w.heap.size ≤ gb340)); have n6_ := Aside0.mk ((by rw [hg]; exact Nat.ne_of_lt (blk_lt (g := gb332) (o := .cells #[.int .i64 x333000_1, .int .i64 x333001_1] 105 (0, 0)) (zb75)) : gb332 ≠ gb340)); have n7_ := Aside0.mk ((by rw [hg]; exact Nat.ne_of_gt (blk_lt (g := gb332) (o := .cells #[.int .i64 x333000_1, .int .i64 x333001_1] 105 (0, 0)) (zb75)) : gb340 ≠ gb332)); clear HO_6; clear BK332; clear HB; have HO_6 := n0_; have BK332 := n1_; have HB := n2_; have BK340 := n3_; have GW340 := n4_; have GE340 := n5_; have NB332_340 := n6_; have NB340_332 := n7_; clear n0_ n1_ n2_ n3_ n4_ n5_ n6_ n7_; clear hb hbox hg; have hnb45 := NB340_332.out; have hnc45 := NB332_340.out; have hcz46_0 : w44.cell? ⟨gb340, 0, none⟩ = some (.int .i64 0) := (blk_cell BK340.out 0).trans rfl; have hcz46_1 : w44.cell? ⟨gb340, 1, none⟩ = some (.int .i64 0) := (blk_cell BK340.out 1).trans rfl; have hfz46_0 := blk_frozen BK340.out 0; have hfz46_1 := blk_frozen BK340.out 1; have hcz47_0 : w44.cell? ⟨gb332, 0, none⟩ = some (.int .i64 x333000_1) := (blk_cell BK332.out 0).trans rfl; have hcz47_1 : w44.cell? ⟨gb332, 1, none⟩ = some (.int .i64 x333001_1) := (blk_cell BK332.out 1).trans rfl; have hfz47_0 := blk_frozen BK332.out 0; have hfz47_1 := blk_frozen BK332.out 1) | ((with_reducible refine gate_callee (f := 130) rfl ?_); refine goesL_ (some 24) rfl rfl Try.func130 (by kernel_rfl) rfl #[.agg #[.int .i64 ((rd_T105 l0 x13_1).f0), .int .i64 ((rd_T105 l0 x13_1).f1)], .agg #[.int .i64 x333000_1, .int .i64 x333001_1]] rfl (zb10) ?_; (with_reducible refine (impl_Win_overlaps.calls ((rd_T105 l0 x13_1).f0) ((rd_T105 l0 x13_1).f1) x333000_1 x333001_1 false _ A9.out).mono ?_); rintro e w48 ⟨rfl, hb⟩; refine ⟨_, rfl, ?_⟩; have n0_ := Aside0.mk (Kd.R_below (zb77) hb); have n1_ := Aside0.mk (blk_below (g := gb332) (o := .cells #[.int .i64 x333000_1, .int .i64 x333001_1] 105 (0, 0)) (zb78) hb); have n2_ := Aside0.mk (blk_below (g := gb340) (o := .cells #[.int .i64 ((rd_T105 l0 x13_1).f0), .int .i64 ((rd_T105 l0 x13_1).f1)] 105 (0, 0)) (zb79) hb); have n3_ := Aside0.mk (below_step (zb80) hb); clear HO_6; clear BK332; clear BK340; clear HB; have HO_6 := n0_; have BK332 := n1_; have BK340 := n2_; have HB := n3_; clear n0_ n1_ n2_ n3_; (try clear hb); (try clear hb2); (try clear hk); (try clear hi); have hcz49_0 : w48.cell? ⟨gb340, 0, none⟩ = some (.int .i64 ((rd_T105 l0 x13_1).f0)) := (blk_cell BK340.out 0).trans rfl; have hcz49_1 : w48.cell? ⟨gb340, 1, none⟩ = some (.int .i64 ((rd_T105 l0 x13_1).f1)) := (blk_cell BK340.out 1).trans rfl; have hfz49_0 := blk_frozen BK340.out 0; have hfz49_1 := blk_frozen BK340.out 1; have hcz50_0 : w48.cell? ⟨gb332, 0, none⟩ = some (.int .i64 x333000_1) := (blk_cell BK332.out 0).trans rfl; have hcz50_1 : w48.cell? ⟨gb332, 1, none⟩ = some (.int .i64 x333001_1) := (blk_cell BK332.out 1).trans rfl; have hfz50_0 := blk_frozen BK332.out 0; have hfz50_1 := blk_frozen BK332.out 1) | ((with_reducible refine gate_builtin (b := .append) (xs := #[.tmp 17, .tmp 19]) rfl ?_); at_builtin; refine Kd.R_append k105 (w0 := w) w.heap.size rfl (.tmp 17) (.tmp 19) 51 105 (.agg #[(.int .i64 0), (.int .i64 0)]) 16 rfl Try.underlying51 info105 rfl (by decide) (by omega) u6 x6_1 (⟨(rd_T105 l0 x13_1).f0, (rd_T105 l0 x13_1).f1⟩ : S105) [.int .i64 ((rd_T105 l0 x13_1).f0), .int .i64 ((rd_T105 l0 x13_1).f1)] (fun k_ => k_ ≠ gb332 ∧ k_ ≠ gb340) (fun _ => False) rfl rfl ?aP (fun _ hk => hk.elim) ?aF ?aO ?aB ?aS ?aL ?_; (case aP => exact k105_mkM _ _ _ (⟨(rd_T105 l0 x13_1).f0, (rd_T105 l0 x13_1).f1⟩ : S105)); (case aB => exact (zb80)); (case aF => exact (fun k_ hk => ⟨Kd.freshB (g := gb332) (o := .cells #[.int .i64 x333000_1, .int .i64 x333001_1] 105 (0, 0)) (zb75) k_ hk, Kd.freshB (g := gb340) (o := .cells #[.int .i64 ((rd_T105 l0 x13_1).f0), .int .i64 ((rd_T105 l0 x13_1).f1)] 105 (0, 0)) (zb81) k_ hk⟩)); (case aO => exact (zb42)); (case aS => exact (below_size (zb80))); (case aL => have := LMc43.out; omega); intro v352 w51 ho hb hg hat; rw [← Ny351.out] at ho; have n0_ := Aside0.mk (blk_grown (g := gb332) (o := .cells #[.int .i64 x333000_1, .int .i64 x333001_1] 105 (0, 0)) (zb75) hg (Kd.R_away HO_6.out (fun _ hk => hk.1))); have n1_ := Aside0.mk (blk_grown (g := gb340) (o := .cells #[.int .i64 ((rd_T105 l0 x13_1).f0), .int .i64 ((rd_T105 l0 x13_1).f1)] 105 (0, 0)) (zb81) hg (Kd.R_away HO_6.out (fun _ hk => hk.2))); have n2_ := Aside0.mk (hb); have n3_ := Aside0.mk (ho); clear BK332; clear BK340; clear HB; clear HO_6; have BK332 := n0_; have BK340 := n1_; have HB := n2_; have HO353 := n3_; clear n0_ n1_ n2_ n3_; clear ho hb hg hat))
         go_roundg k1
         case measure => have := HK1.out; omega
         case rel => exact ⟨(y351), (x7_1), (wrap64 (x13_1 + 1)), (x333000_1), (x333001_1), (zb1), (zb1), H', ⟨zb48⟩, ⟨by (with_reducible repeat (first | apply Kd.R_alloc | apply Kd.R_drewN | apply Kd.R_drew)); exact Kd.R_mono HO353.out (fun _ hk => hk.1)⟩, ⟨zb75⟩, ⟨zb80⟩⟩
        ·rw [if_neg c43] at H
         exact absurd H (by simp)
     ·rw [if_neg c8] at H
      exact absurd H (by simp)
    ·rw [if_neg c7] at H
     exact absurd H (by simp)
   ·rw [if_neg c6] at H
    have c6b0 : decide (x13_1 < (l0.length : Int)) = false := decide_eq_false c6
    clear c6
    by_cases c52 : x7_1 = true
    ·subst c52
     have H1 : (some (x6_1, decide ((x6_1.length : Int) ≤ 300))) = some (r1, r2) := by rw [if_pos rfl] at H; exact H
     clear H
     have H := H1
     clear H1
     simp only [Option.some.injEq, Prod.mk.injEq] at H
     obtain ⟨rfl, rfl⟩ := H
     obtain ⟨Ao53, co53, eo53⟩ := Kd.R_slice HO_6.out
     subst eo53
     go_wp2
     go_ret2
     exact ⟨_, zb5, by (with_reducible repeat (first | apply Kd.R_alloc | apply Kd.R_drewN | apply Kd.R_drew)); exact Kd.R_mono HO_6.out (fun _ hk => trivial), zb76⟩
    ·replace c52 := Bool.eq_false_iff.mpr c52
     subst c52
     have H1 : (if x6_1.length < 8796093022208 then ((some (x6_1 ++ [(⟨x333000_1, x333001_1⟩ : S105)] : List (S105))).bind fun y336 => (some (y336, decide ((y336.length : Int) ≤ 300)))) else (none)) = some (r1, r2) := by rw [if_neg (show ¬ (false = true) by decide)] at H; exact H
     clear H
     have H := H1
     clear H1
     by_cases c54 : x6_1.length < 8796093022208
     ·rw [if_pos c54] at H
      have LMc54 := Aside0.mk c54
      clear c54
      obtain ⟨y336, hy336⟩ : ∃ y_ : List (S105), y_ = (x6_1 ++ [(⟨x333000_1, x333001_1⟩ : S105)]) := ⟨_, rfl⟩
      replace H : (some (y336, decide ((y336.length : Int) ≤ 300))) = some (r1, r2) := by first | (rw [hy336]; with_reducible exact H) | (have H2_ := (Option.bind_some _ _).symm.trans H; rw [hy336]; with_reducible exact H2_) | (have H2_ := (Option.bind_some _ _).symm.trans H; with_reducible exact H2_) | with_reducible exact H | (rw [hy336]; exact H) | exact H
      have Ny336 := Aside0.mk hy336
      clear hy336
      simp only [Option.some.injEq, Prod.mk.injEq] at H
      obtain ⟨rfl, rfl⟩ := H
      have hcz55_0 : wr.cell? ⟨gb332, 0, none⟩ = some (.int .i64 x333000_1) := (blk_cell BK332.out 0).trans rfl
      have hcz55_1 : wr.cell? ⟨gb332, 1, none⟩ = some (.int .i64 x333001_1) := (blk_cell BK332.out 1).trans rfl
      have hfz55_0 := blk_frozen BK332.out 0
      have hfz55_1 := blk_frozen BK332.out 1
      go_wp2_with (first | ((with_reducible refine gate_builtin (b := .append) (xs := #[.tmp 54, .tmp 56]) rfl ?_); at_builtin; refine Kd.R_append k105 (w0 := w) w.heap.size rfl (.tmp 54) (.tmp 56) 51 105 (.agg #[(.int .i64 0), (.int .i64 0)]) 16 rfl Try.underlying51 info105 rfl (by decide) (by omega) u6 x6_1 (⟨x333000_1, x333001_1⟩ : S105) [.int .i64 x333000_1, .int .i64 x333001_1] (fun k_ => k_ ≠ gb332) (fun _ => False) rfl rfl ?aP (fun _ hk => hk.elim) ?aF ?aO ?aB ?aS ?aL ?_; (case aP => exact k105_mkM _ _ _ (⟨x333000_1, x333001_1⟩ : S105)); (case aB => exact (zb76)); (case aF => exact (fun k_ hk => Kd.freshB (g := gb332) (o := .cells #[.int .i64 x333000_1, .int .i64 x333001_1] 105 (0, 0)) (zb75) k_ hk)); (case aO => exact (zb42)); (case aS => exact (below_size (zb76))); (case aL => have := LMc54.out; omega); intro v337 w56 ho hb hg hat; rw [← Ny336.out] at ho; have n0_ := Aside0.mk (blk_grown (g := gb332) (o := .cells #[.int .i64 x333000_1, .int .i64 x333001_1] 105 (0, 0)) (zb75) hg (Kd.R_away HO_6.out (fun _ hk => hk))); have n1_ := Aside0.mk (hb); have n2_ := Aside0.mk (ho); clear BK332; clear HB; clear HO_6; have BK332 := n0_; have HB := n1_; have HO338 := n2_; clear n0_ n1_ n2_; clear ho hb hg hat; obtain ⟨Ao57, co57, eo57⟩ := Kd.R_slice HO338.out; subst eo57))
      go_ret2
      exact ⟨_, zb5, by (with_reducible repeat (first | apply Kd.R_alloc | apply Kd.R_drewN | apply Kd.R_drew)); exact Kd.R_mono HO338.out (fun _ hk => trivial), zb76⟩
     ·rw [if_neg c54] at H
      exact absurd H (by simp)

/-! ### impl_sessAll: function 78 -/
def impl_sessAll.l0 : Nat → List (S105) → List (S105) → Int → Int → Option ((List (S105)) × Bool)
 | 0, _, _, _, _ => none
 | k + 1, x6, x13, x14, x15 => if x15 < x14 then (if 0 ≤ x15 then (if x15 < (x13.length : Int) then ((impl_sessAdd.f k x6 ((rd_T105 x13 x15).f0) ((rd_T105 x13 x15).f1)).bind fun bt362 => (if bt362.2 = true then (impl_sessAll.l0 k bt362.1 x13 x14 (wrap64 (x15 + 1))) else (some (([] : List (S105)), false)))) else (none)) else (none)) else (some (x6, true))
def impl_sessAll.f (k : Nat) (l0 : List (S105)) (l1 : List (S105)) : Option ((List (S105)) × Bool) := (some (([] : List (S105)) : List (S105))).bind fun y354 => (if y354.length + l0.length < 8796093022208 then (impl_sessAll.l0 k (y354 ++ l0) l1 (l1.length : Int) 0) else (none))
theorem impl_sessAll.mono_l : ∀ k, (∀ y0 y1 y2 y3, LeO (impl_sessAll.l0 k y0 y1 y2 y3) (impl_sessAll.l0 (k + 1) y0 y1 y2 y3))
 | 0 => fun _ _ _ _ r h => by simp [impl_sessAll.l0] at h
 | k + 1 => by
  have ih0 := impl_sessAll.mono_l k
  ·intro y0 y1 y2 y3
   unfold impl_sessAll.l0
   repeat' first
   | (with_reducible exact ih0 _ _ _ _)
   | (with_reducible exact impl_sessAdd.mono _ _ _ _)
   | (with_reducible exact LeO.refl _)
   | (with_reducible exact LeO.none _)
   | (with_reducible refine LeO.ite ?_ ?_)
   | (with_reducible refine LeO.bind ?_ (fun _ => ?_))
   | exact ih0 _ _ _ _
   | exact impl_sessAdd.mono _ _ _ _
   | exact LeO.none _
   | refine LeO.ite ?_ ?_
   | refine LeO.bind ?_ (fun _ => ?_)
theorem impl_sessAll.mono : ∀ a0 a1 k, LeO (impl_sessAll.f k a0 a1) (impl_sessAll.f (k + 1) a0 a1) := by
 intro a0 a1 k
 have ih0 := impl_sessAll.mono_l k
 unfold impl_sessAll.f
 repeat' first
   | (with_reducible exact ih0 _ _ _ _)
   | (with_reducible exact impl_sessAdd.mono _ _ _ _)
   | (with_reducible exact LeO.refl _)
   | (with_reducible exact LeO.none _)
   | (with_reducible refine LeO.ite ?_ ?_)
   | (with_reducible refine LeO.bind ?_ (fun _ => ?_))
   | exact ih0 _ _ _ _
   | exact impl_sessAdd.mono _ _ _ _
   | exact LeO.none _
   | refine LeO.ite ?_ ?_
   | refine LeO.bind ?_ (fun _ => ?_)
set_option maxHeartbeats 8000000 in
set_option maxRecDepth 100000 in
theorem impl_sessAll.calls (k : Nat) (A0 : Option Addr) (c0 : Nat) (l0 : List (S105)) (A1 : Option Addr) (c1 : Nat) (l1 : List (S105)) (r1 : List (S105)) (r2 : Bool) (w : World) (hr0 : Kd.C k105 w A0 l0.length l0) (hc0 : l0.length ≤ c0) (hr1 : Kd.C k105 w A1 l1.length l1) (hc1 : l1.length ≤ c1) (h : impl_sessAll.f k l0 l1 = some (r1, r2)) :
  Calls Try.prog 78 #[.slice A0 l0.length c0, .slice A1 l1.length c1] w fun e w' => ∃ v0_ : Value, e = .returned (.tuple #[v0_, .bool r2]) ∧ Kd.R k105 105 w' w.heap.size (fun _ => True) v0_ r1 ∧ Below w.heap.size w w' := by
 have hu105 := Try.underlying105
 have HR0 := Aside0.mk hr0
 have HC0 := Aside0.mk hc0
 clear hr0 hc0
 have HR1 := Aside0.mk hr1
 have HC1 := Aside0.mk hc1
 clear hr1 hc1
 have HB := Aside0.mk (Below.refl w.heap.size w)
 have H : ((some (([] : List (S105)) : List (S105))).bind fun y354 => (if y354.length + l0.length < 8796093022208 then (impl_sessAll.l0 k (y354 ++ l0) l1 (l1.length : Int) 0) else (none))) = some (r1, r2) := h
 clear h
 obtain ⟨y354, hy354⟩ : ∃ y_ : List (S105), y_ = (([] : List (S105))) := ⟨_, rfl⟩
 replace H : (if y354.length + l0.length < 8796093022208 then (impl_sessAll.l0 k (y354 ++ l0) l1 (l1.length : Int) 0) else (none)) = some (r1, r2) := by first | (rw [hy354]; with_reducible exact H) | (have H2_ := (Option.bind_some _ _).symm.trans H; rw [hy354]; with_reducible exact H2_) | (have H2_ := (Option.bind_some _ _).symm.trans H; with_reducible exact H2_) | with_reducible exact H | (rw [hy354]; exact H) | exact H
 have Ny354 := Aside0.mk hy354
 clear hy354
 by_cases c3 : y354.length + l0.length < 8796093022208
 ·rw [if_pos c3] at H
  have LMc3 := Aside0.mk c3
  clear c3
  obtain ⟨y357, hy357⟩ : ∃ y_ : List (S105), y_ = (y354 ++ l0) := ⟨_, rfl⟩
  replace H : (impl_sessAll.l0 k y357 l1 (l1.length : Int) 0) = some (r1, r2) := by first | (rw [hy357]; with_reducible exact H) | (have H2_ := (Option.bind_some _ _).symm.trans H; rw [hy357]; with_reducible exact H2_) | (have H2_ := (Option.bind_some _ _).symm.trans H; with_reducible exact H2_) | with_reducible exact H | (rw [hy357]; exact H) | exact H
  have Ny357 := Aside0.mk hy357
  clear hy357
  have H' := Aside0.mk H
  clear H
  go_enter Try.func78, Try.ntmps78
  go_wp2_with (first | ((with_reducible refine gate_dst (N := 10) rfl ?_); refine Kd.R_lit k105 _ 105 ?hg (N := 10) ?hd (xs := ([] : List (S105))) (inner := []) (ok := fun _ => True) (okp := fun _ => True) ?hr ?hp (fun _ hk => hk) trivial (Below.refl _ _) (Nat.le_refl _) (by simp) ?_; (case hd => rfl); (case hg => rfl); (case hr => first | (go_simp; done) | (go_simp; rfl)); (case hp => exact (Reps.none _ _)); intro v355 w4 ho5 hb hg_ hnew_; clear hg_ hnew_; (first | rw [← Ny354.out] at ho5 | (simp only [Int.reduceToNat] at ho5; rw [← Ny354.out] at ho5)); have n0_ := Aside0.mk (Kd.R_lower ho5 (below_size (zb3))); have n1_ := Aside0.mk (below_step (zb3) hb); clear HB; have HO356 := n0_; have HB := n1_; clear n0_ n1_; clear hb ho5) | ((with_reducible refine gate_builtin (b := .append) (xs := #[.tmp 10, .tmp 11]) rfl ?_); at_builtin; refine Kd.R_append_rows k105 (w0 := w) w.heap.size rfl (.tmp 10) (.tmp 11) 51 105 (.agg #[(.int .i64 0), (.int .i64 0)]) 16 rfl Try.underlying51 info105 rfl (by decide) (by omega) v355 y354 l0 _ _ _ (fun _ => True) (fun _ => False) rfl rfl ?aO ?aR (fun _ _ h => h) (fun _ h => h.elim) ?aF ?aB ?aS ?aL ?_; (case aR => repeat (first | exact (Kd.C_below HR0.out HB.out) | (with_reducible refine Kd.C_alloc ?_ _) | (with_reducible refine Kd.C_drewN ?_ _) | (with_reducible refine Kd.C_drew ?_))); (case aB => exact (zb3)); (case aF => exact (fun _ _ => trivial)); (case aO => exact (by (with_reducible repeat (first | apply Kd.R_alloc | apply Kd.R_drewN | apply Kd.R_drew)); exact HO356.out)); (case aS => exact (below_size (zb3))); (case aL => have := LMc3.out; omega); intro v358 w6 ho hb hg hat; rw [← Ny357.out] at ho; have n0_ := Aside0.mk (hb); have n1_ := Aside0.mk (ho); clear HB; clear HO356; have HB := n0_; have HO359 := n1_; clear n0_ n1_; clear ho hb hg hat))
  go_loopg [6, 15] k (fun kq v6 v15 w' => ∃ (x6_1 : List (S105)) (x15_1 : Int), v15 = .int .i64 x15_1 ∧ Aside0 (impl_sessAll.l0 kq x6_1 l1 (l1.length : Int) x15_1 = some (r1, r2)) ∧ Aside0 (kq ≤ k) ∧ Aside0 (Kd.R k105 105 w' w.heap.size (fun _ => True) v6 x6_1) ∧ Aside0 (Below w.heap.size w w'))
  case atStart => exact ⟨(y357), (0), (zb1), H', ⟨Nat.le_refl _⟩, ⟨by (with_reducible repeat (first | apply Kd.R_alloc | apply Kd.R_drewN | apply Kd.R_drew)); exact HO359.out⟩, ⟨zb3⟩⟩
  case round =>
   clear H'
   try clear c1
   try clear p2
   try clear c3
   obtain ⟨x6_1, x15_1, rfl, HA, HK1, HO_6, HB⟩ := hrel
   cases gk with
   | zero => exact absurd HA.out (by simp [impl_sessAll.l0])
   | succ k1 =>
    have H := HA.out
    clear HA
    simp only [impl_sessAll.l0] at H
    by_cases c7 : x15_1 < (l1.length : Int)
    ·rw [if_pos c7] at H
     have c7b0 : decide (x15_1 < (l1.length : Int)) = true := decide_eq_true c7
     clear c7
     by_cases c8 : 0 ≤ x15_1
     ·rw [if_pos c8] at H
      have c8b0 : decide (0 ≤ x15_1) = true := decide_eq_true c8
      clear c8
      by_cases c9 : x15_1 < (l1.length : Int)
      ·rw [if_pos c9] at H
       have c9b0 : decide (x15_1 < (l1.length : Int)) = true := decide_eq_true c9
       clear c9
       replace H := Option.bind_eq_some_iff.mp H
       obtain ⟨⟨t362, t365⟩, A100, H⟩ := H
       replace H : (if t365 = true then (impl_sessAll.l0 k1 t362 l1 (l1.length : Int) (wrap64 (x15_1 + 1))) else (some (([] : List (S105)), false))) = some (r1, r2) := H
       have A10 := Aside0.mk A100
       clear A100
       by_cases c11 : t365 = true
       ·subst c11
        have H1 : (impl_sessAll.l0 k1 t362 l1 (l1.length : Int) (wrap64 (x15_1 + 1))) = some (r1, r2) := by rw [if_pos rfl] at H; exact H
        clear H
        have H := H1
        clear H1
        have H' := Aside0.mk H
        clear H
        have p360 : 0 ≤ (x15_1 : Int) := of_decide_eq_true (zb9)
        have q360 : x15_1 < (l1.length : Int) := of_decide_eq_true (zb9)
        obtain ⟨ad360, e360, hx360_0, hx360_1⟩ := at_T105 HR1.out x15_1 p360 q360
        cases e360
        replace hx360_0 := (HB.out.cell (World.block_lt_of_cell? w _ hx360_0)).trans hx360_0
        replace hx360_1 := (HB.out.cell (World.block_lt_of_cell? w _ hx360_1)).trans hx360_1
        replace p360 := eq_true p360
        replace q360 := eq_true q360
        go_wp2_with (first | ((with_reducible refine gate_dst (N := 9) rfl ?_); refine box_event ?hg (N := 9) ?hd (cs := #[.int .i64 0, .int .i64 0]) (t := 105) ?hr ?_; (case hd => rfl); (case hg => rfl); (case hr => first | (go_simp; done) | (go_simp; rfl)); intro gb361 hg w12 hbox hb; have n0_ := Aside0.mk (Kd.R_below (Kd.R_elderB (zb42) gb361 (Nat.le_of_eq hg.symm)) hb); have n1_ := Aside0.mk (below_step (zb3) hb); have n2_ := Aside0.mk (hbox); have n3_ := Aside0.mk ((by rw [hg]; exact (below_size (zb3)) : w.heap.size ≤ gb361)); have n4_ := Aside0.mk ((by rw [hg]; exact (below_size (zb3)) : w.heap.size ≤ gb361)); clear HO_6; clear HB; have HO_6 := n0_; have HB := n1_; have BK361 := n2_; have GW361 := n3_; have GE361 := n4_; clear n0_ n1_ n2_ n3_ n4_; clear hb hbox hg; have hcz13_0 : w12.cell? ⟨gb361, 0, none⟩ = some (.int .i64 0) := (blk_cell BK361.out 0).trans rfl; have hcz13_1 : w12.cell? ⟨gb361, 1, none⟩ = some (.int .i64 0) := (blk_cell BK361.out 1).trans rfl; have hfz13_0 := blk_frozen BK361.out 0; have hfz13_1 := blk_frozen BK361.out 1; obtain ⟨Ao14, co14, eo14⟩ := Kd.R_slice HO_6.out; subst eo14) | ((with_reducible refine gate_callee (f := 112) rfl ?_); refine goesL_ (some 22) rfl rfl Try.func112 (by kernel_rfl) rfl #[.slice Ao14 x6_1.length co14, .agg #[.int .i64 ((rd_T105 l1 x15_1).f0), .int .i64 ((rd_T105 l1 x15_1).f1)]] rfl (zb10) ?_; (with_reducible refine (impl_sessAdd.calls k1 _ _ x6_1 ((rd_T105 l1 x15_1).f0) ((rd_T105 l1 x15_1).f1) t362 true _ ?side1 ?side2 A10.out).mono ?_); (case side1 => refine (Kd.R_reads' (e := 105) (base := w.heap.size) (ok := fun k_ => (True ∧ k_ ≠ gb361)) (n := x6_1.length) (c := co14) ?_).2.2; exact (zb82)); (case side2 => exact (Kd.R_reads' HO_6.out).2.1); rintro e w15 ⟨v363, rfl, ho0, hb⟩; refine ⟨_, rfl, ?_⟩; have n0_ := Aside0.mk (Kd.R_elder' (zb82) (Kd.R_base ho0) hb); have n1_ := Aside0.mk (Kd.R_lower (Kd.R_newB (Kd.R_new' ho0 (Kd.R_lt (zb82))) (g := gb361) (o := .cells #[.int .i64 ((rd_T105 l1 x15_1).f0), .int .i64 ((rd_T105 l1 x15_1).f1)] 105 (0, 0)) (zb83)) (below_size (zb84))); have n2_ := Aside0.mk (blk_below (g := gb361) (o := .cells #[.int .i64 ((rd_T105 l1 x15_1).f0), .int .i64 ((rd_T105 l1 x15_1).f1)] 105 (0, 0)) (zb83) hb); have n3_ := Aside0.mk (below_step (zb84) hb); clear HO_6; clear BK361; clear HB; have HO_6 := n0_; have HO364 := n1_; have BK361 := n2_; have HB := n3_; clear n0_ n1_ n2_ n3_; (try clear hb); (try clear hb2); (try clear hk); (try clear hi); (try clear ho0)))
        go_roundg k1
        case measure => have := HK1.out; omega
        case rel => exact ⟨(t362), (wrap64 (x15_1 + 1)), (zb1), H', ⟨zb48⟩, ⟨by (with_reducible repeat (first | apply Kd.R_alloc | apply Kd.R_drewN | apply Kd.R_drew)); exact Kd.R_mono HO364.out (fun _ hk => trivial)⟩, ⟨zb84⟩⟩
       ·replace c11 := Bool.eq_false_iff.mpr c11
        subst c11
        have H1 : (some (([] : List (S105)), false)) = some (r1, r2) := by rw [if_neg (show ¬ (false = true) by decide)] at H; exact H
        clear H
        have H := H1
        clear H1
        simp only [Option.some.injEq, Prod.mk.injEq] at H
        obtain ⟨rfl, rfl⟩ := H
        have p360 : 0 ≤ (x15_1 : Int) := of_decide_eq_true (zb9)
        have q360 : x15_1 < (l1.length : Int) := of_decide_eq_true (zb9)
        obtain ⟨ad360, e360, hx360_0, hx360_1⟩ := at_T105 HR1.out x15_1 p360 q360
        cases e360
        replace hx360_0 := (HB.out.cell (World.block_lt_of_cell? w _ hx360_0)).trans hx360_0
        replace hx360_1 := (HB.out.cell (World.block_lt_of_cell? w _ hx360_1)).trans hx360_1
        replace p360 := eq_true p360
        replace q360 := eq_true q360
        go_wp2_with (first | ((with_reducible refine gate_dst (N := 9) rfl ?_); refine box_event ?hg (N := 9) ?hd (cs := #[.int .i64 0, .int .i64 0]) (t := 105) ?hr ?_; (case hd => rfl); (case hg => rfl); (case hr => first | (go_simp; done) | (go_simp; rfl)); intro gb361 hg w16 hbox hb; have n0_ := Aside0.mk (Kd.R_below (Kd.R_elderB (zb42) gb361 (Nat.le_of_eq hg.symm)) hb); have n1_ := Aside0.mk (below_step (zb3) hb); have n2_ := Aside0.mk (hbox); have n3_ := Aside0.mk ((by rw [hg]; exact (below_size (zb3)) : w.heap.size ≤ gb361)); have n4_ := Aside0.mk ((by rw [hg]; exact (below_size (zb3)) : w.heap.size ≤ gb361)); clear HO_6; clear HB; have HO_6 := n0_; have HB := n1_; have BK361 := n2_; have GW361 := n3_; have GE361 := n4_; clear n0_ n1_ n2_ n3_ n4_; clear hb hbox hg; have hcz17_0 : w16.cell? ⟨gb361, 0, none⟩ = some (.int .i64 0) := (blk_cell BK361.out 0).trans rfl; have hcz17_1 : w16.cell? ⟨gb361, 1, none⟩ = some (.int .i64 0) := (blk_cell BK361.out 1).trans rfl; have hfz17_0 := blk_frozen BK361.out 0; have hfz17_1 := blk_frozen BK361.out 1; obtain ⟨Ao18, co18, eo18⟩ := Kd.R_slice HO_6.out; subst eo18) | ((with_reducible refine gate_callee (f := 112) rfl ?_); refine goesL_ (some 22) rfl rfl Try.func112 (by kernel_rfl) rfl #[.slice Ao18 x6_1.length co18, .agg #[.int .i64 ((rd_T105 l1 x15_1).f0), .int .i64 ((rd_T105 l1 x15_1).f1)]] rfl (zb10) ?_; (with_reducible refine (impl_sessAdd.calls k1 _ _ x6_1 ((rd_T105 l1 x15_1).f0) ((rd_T105 l1 x15_1).f1) t362 false _ ?side1 ?side2 A10.out).mono ?_); (case side1 => refine (Kd.R_reads' (e := 105) (base := w.heap.size) (ok := fun k_ => (True ∧ k_ ≠ gb361)) (n := x6_1.length) (c := co18) ?_).2.2; exact (zb82)); (case side2 => exact (Kd.R_reads' HO_6.out).2.1); rintro e w19 ⟨v363, rfl, ho0, hb⟩; refine ⟨_, rfl, ?_⟩; have n0_ := Aside0.mk (Kd.R_elder' (zb82) (Kd.R_base ho0) hb); have n1_ := Aside0.mk (Kd.R_lower (Kd.R_newB (Kd.R_new' ho0 (Kd.R_lt (zb82))) (g := gb361) (o := .cells #[.int .i64 ((rd_T105 l1 x15_1).f0), .int .i64 ((rd_T105 l1 x15_1).f1)] 105 (0, 0)) (zb83)) (below_size (zb84))); have n2_ := Aside0.mk (blk_below (g := gb361) (o := .cells #[.int .i64 ((rd_T105 l1 x15_1).f0), .int .i64 ((rd_T105 l1 x15_1).f1)] 105 (0, 0)) (zb83) hb); have n3_ := Aside0.mk (below_step (zb84) hb); clear HO_6; clear BK361; clear HB; have HO_6 := n0_; have HO364 := n1_; have BK361 := n2_; have HB := n3_; clear n0_ n1_ n2_ n3_; (try clear hb); (try clear hb2); (try clear hk); (try clear hi); (try clear ho0)))
        go_ret2
        exact ⟨_, zb5, zb54, zb84⟩
      ·rw [if_neg c9] at H
       exact absurd H (by simp)
     ·rw [if_neg c8] at H
      exact absurd H (by simp)
    ·rw [if_neg c7] at H
     have c7b0 : decide (x15_1 < (l1.length : Int)) = false := decide_eq_false c7
     clear c7
     simp only [Option.some.injEq, Prod.mk.injEq] at H
     obtain ⟨rfl, rfl⟩ := H
     go_wp2
     go_ret2
     exact ⟨_, zb5, zb42, zb3⟩
 ·rw [if_neg c3] at H
  exact absurd H (by simp)

end Go.Proofs.Ytkikbhcicpkhgaa.PFnSessions
