/- Contracts of the functions that the law FnMarks reaches, part 8: each says that the call returns what the Lean function of the same name computes. Made by a program of this session. -/
import Derived.Test.YtahnodgbfonlhaaQFnMarksx0
namespace Go.Proofs.Ytahnodgbfonlhaa.PFnMarks
open Go.RowKit Go.Proofs.YtahnodgbfonlhaaW.PrintWords Go.Proofs.YtahnodgbfonlhaaW.PrintLast Go.Proofs.YtahnodgbfonlhaaW.PrintMore
attribute [local go_sem] max2_int min2_int max_two min_two max_three min_three max_four min_four   -- for this text's walks alone
set_option linter.unusedVariables false
set_option linter.unusedSimpArgs false

/-! ### impl_Marks_least: function 85 -/
mutual
def impl_Marks_least.l0 : Nat → Int → List (S63) → Int → Int → Option (Int)
 | 0, _, _, _, _ => none
 | k + 1, x3, x7, x8, x9 => if x9 < x8 then (if 0 ≤ x9 then (if x9 < (x7.length : Int) then (if ((rd_T63 x7 x9).f1 = true) then (impl_Marks_least.j1 k x3 x7 x8 x9 false ((rd_T63 x7 x9).f0) ((rd_T63 x7 x9).f1)) else (if x3 < 0 then (impl_Marks_least.j1 k x3 x7 x8 x9 true ((rd_T63 x7 x9).f0) ((rd_T63 x7 x9).f1)) else (impl_Marks_least.j1 k x3 x7 x8 x9 (decide (((rd_T63 x7 x9).f0) < x3)) ((rd_T63 x7 x9).f0) ((rd_T63 x7 x9).f1)))) else (none)) else (none)) else (some x3)
def impl_Marks_least.j1 : Nat → Int → List (S63) → Int → Int → Bool → Int → Bool → Option (Int)
 | 0, _, _, _, _, _, _, _ => none
 | k + 1, x3, x7, x8, x9, x25, x301000, x301001 => if x25 = true then (impl_Marks_least.l0 k x301000 x7 x8 (wrap64 (x9 + 1))) else (impl_Marks_least.l0 k x3 x7 x8 (wrap64 (x9 + 1)))
end
def impl_Marks_least.f (k : Nat) (a0_0 : Int) (l0_1 : List (S63)) : Option (Int) := impl_Marks_least.l0 k (-1) l0_1 (l0_1.length : Int) 0
theorem impl_Marks_least.mono_l : ∀ k, (∀ y0 y1 y2 y3, LeO (impl_Marks_least.l0 k y0 y1 y2 y3) (impl_Marks_least.l0 (k + 1) y0 y1 y2 y3)) ∧ (∀ y0 y1 y2 y3 y4 y5 y6, LeO (impl_Marks_least.j1 k y0 y1 y2 y3 y4 y5 y6) (impl_Marks_least.j1 (k + 1) y0 y1 y2 y3 y4 y5 y6))
 | 0 => ⟨fun _ _ _ _ r h => by simp [impl_Marks_least.l0] at h, fun _ _ _ _ _ _ _ r h => by simp [impl_Marks_least.j1] at h⟩
 | k + 1 => by
  obtain ⟨ih0, ih1⟩ := impl_Marks_least.mono_l k
  refine ⟨?_, ?_⟩
  ·intro y0 y1 y2 y3
   unfold impl_Marks_least.l0
   repeat' first
   | (with_reducible exact ih0 _ _ _ _)
   | (with_reducible exact ih1 _ _ _ _ _ _ _)
   | (with_reducible exact LeO.refl _)
   | (with_reducible exact LeO.none _)
   | (with_reducible refine LeO.ite ?_ ?_)
   | (with_reducible refine LeO.bind ?_ (fun _ => ?_))
   | exact ih0 _ _ _ _
   | exact ih1 _ _ _ _ _ _ _
   | exact LeO.none _
   | refine LeO.ite ?_ ?_
   | refine LeO.bind ?_ (fun _ => ?_)
  ·intro y0 y1 y2 y3 y4 y5 y6
   unfold impl_Marks_least.j1
   repeat' first
   | (with_reducible exact ih0 _ _ _ _)
   | (with_reducible exact ih1 _ _ _ _ _ _ _)
   | (with_reducible exact LeO.refl _)
   | (with_reducible exact LeO.none _)
   | (with_reducible refine LeO.ite ?_ ?_)
   | (with_reducible refine LeO.bind ?_ (fun _ => ?_))
   | exact ih0 _ _ _ _
   | exact ih1 _ _ _ _ _ _ _
   | exact LeO.none _
   | refine LeO.ite ?_ ?_
   | refine LeO.bind ?_ (fun _ => ?_)
theorem impl_Marks_least.mono : ∀ a0 a1 k, LeO (impl_Marks_least.f k a0 a1) (impl_Marks_least.f (k + 1) a0 a1) := by
 intro a0 a1 k
 obtain ⟨ih0, ih1⟩ := impl_Marks_least.mono_l k
 unfold impl_Marks_least.f
 repeat' first
   | (with_reducible exact ih0 _ _ _ _)
   | (with_reducible exact ih1 _ _ _ _ _ _ _)
   | (with_reducible exact LeO.refl _)
   | (with_reducible exact LeO.none _)
   | (with_reducible refine LeO.ite ?_ ?_)
   | (with_reducible refine LeO.bind ?_ (fun _ => ?_))
   | exact ih0 _ _ _ _
   | exact ih1 _ _ _ _ _ _ _
   | exact LeO.none _
   | refine LeO.ite ?_ ?_
   | refine LeO.bind ?_ (fun _ => ?_)
set_option maxHeartbeats 8000000 in
set_option maxRecDepth 100000 in
theorem impl_Marks_least.calls (k : Nat) (a0_0 : Int) (A0_1 : Option Addr) (c0_1 : Nat) (l0_1 : List (S63)) (r : Int) (w : World) (hr0_1 : Kd.C k63 w A0_1 l0_1.length l0_1) (hc0_1 : l0_1.length ≤ c0_1) (h : impl_Marks_least.f k a0_0 l0_1 = some r) :
  Calls Try.prog 85 #[.agg #[.int .i64 a0_0, .slice A0_1 l0_1.length c0_1]] w fun e w' => e = .returned (.int .i64 r) ∧ Below w.heap.size w w' := by
 have hu53 := Try.underlying53
 have hu63 := Try.underlying63
 have HR0_1 := Aside0.mk hr0_1
 have HC0_1 := Aside0.mk hc0_1
 clear hr0_1 hc0_1
 have HB := Aside0.mk (Below.refl w.heap.size w)
 have H : (impl_Marks_least.l0 k (-1) l0_1 (l0_1.length : Int) 0) = some r := h
 clear h
 have H' := Aside0.mk H
 clear H
 go_enter Try.func85, Try.ntmps85
 go_wp2_with (first | ((with_reducible refine gate_dst (N := 1) rfl ?_); refine box_event ?hg (N := 1) ?hd (cs := #[.int .i64 a0_0, .slice A0_1 l0_1.length c0_1]) (t := 53) ?hr ?_; (case hd => rfl); (case hg => rfl); (case hr => first | (go_simp; done) | (go_simp; rfl)); intro gb298 hg w2 hbox hb; have n0_ := Aside0.mk (below_step (zb3) hb); have n1_ := Aside0.mk (hbox); have n2_ := Aside0.mk ((by rw [hg]; exact (below_size (zb3)) : w.heap.size ≤ gb298)); have n3_ := Aside0.mk ((by rw [hg]; exact (below_size (zb3)) : w.heap.size ≤ gb298)); clear HB; have HB := n0_; have BK298 := n1_; have GW298 := n2_; have GE298 := n3_; clear n0_ n1_ n2_ n3_; clear hb hbox hg; have hcz3_0 : w2.cell? ⟨gb298, 0, none⟩ = some (.int .i64 a0_0) := (blk_cell BK298.out 0).trans rfl; have hcz3_1 : w2.cell? ⟨gb298, 1, none⟩ = some (.slice A0_1 l0_1.length c0_1) := (blk_cell BK298.out 1).trans rfl; have hfz3_0 := blk_frozen BK298.out 0; have hfz3_1 := blk_frozen BK298.out 1))
 go_loopg [3, 9] k (fun kq v3 v9 w' => ∃ (x3_1 : Int) (x9_1 : Int), v3 = .int .i64 x3_1 ∧ v9 = .int .i64 x9_1 ∧ Aside0 (impl_Marks_least.l0 kq x3_1 l0_1 (l0_1.length : Int) x9_1 = some r) ∧ Aside0 (kq ≤ k) ∧ Aside0 (w'.heap[gb298]? = some (.cells #[.int .i64 a0_0, (.slice A0_1 l0_1.length c0_1)] 53 (0, 0))) ∧ Aside0 (Below w.heap.size w w'))
 case atStart => exact ⟨((-1)), (0), (zb1), (zb1), H', ⟨Nat.le_refl _⟩, ⟨zb109⟩, ⟨zb110⟩⟩
 case round =>
  clear H'
  try clear p2
  try clear hcz3_0
  try clear hcz3_1
  try clear hfz3_0
  try clear hfz3_1
  obtain ⟨x3_1, x9_1, rfl, rfl, HA, HK1, BK298, HB⟩ := hrel
  cases gk with
  | zero => exact absurd HA.out (by simp [impl_Marks_least.l0])
  | succ k1 =>
   have H := HA.out
   clear HA
   simp only [impl_Marks_least.l0] at H
   by_cases c4 : x9_1 < (l0_1.length : Int)
   ·rw [if_pos c4] at H
    have c4b0 : decide (x9_1 < (l0_1.length : Int)) = true := decide_eq_true c4
    clear c4
    by_cases c5 : 0 ≤ x9_1
    ·rw [if_pos c5] at H
     have c5b0 : decide (0 ≤ x9_1) = true := decide_eq_true c5
     clear c5
     by_cases c6 : x9_1 < (l0_1.length : Int)
     ·rw [if_pos c6] at H
      have c6b0 : decide (x9_1 < (l0_1.length : Int)) = true := decide_eq_true c6
      clear c6
      have HC7 := Aside0.mk H
      clear H
      have p299 : 0 ≤ (x9_1 : Int) := of_decide_eq_true (zb9)
      have q299 : x9_1 < (l0_1.length : Int) := of_decide_eq_true (zb9)
      obtain ⟨ad299, e299, hx299_0, hx299_1⟩ := at_T63 HR0_1.out x9_1 p299 q299
      cases e299
      replace hx299_0 := (HB.out.cell (World.block_lt_of_cell? w _ hx299_0)).trans hx299_0
      replace hx299_1 := (HB.out.cell (World.block_lt_of_cell? w _ hx299_1)).trans hx299_1
      replace p299 := eq_true p299
      replace q299 := eq_true q299
      go_upto_region 5 with (first | ((with_reducible refine gate_dst (N := 5) rfl ?_); refine box_event ?hg (N := 5) ?hd (cs := #[.int .i64 0, .bool false]) (t := 63) ?hr ?_; (case hd => rfl); (case hg => rfl); (case hr => first | (go_simp; done) | (go_simp; rfl)); intro gb300 hg w8 hbox hb; have n0_ := Aside0.mk (blk_below (g := gb298) (o := .cells #[.int .i64 a0_0, .slice (some ad299) l0_1.length c0_1] 53 (0, 0)) (zb109) hb); have n1_ := Aside0.mk (below_step (zb110) hb); have n2_ := Aside0.mk (hbox); have n3_ := Aside0.mk ((by rw [hg]; exact (below_size (zb110)) : w.heap.size ≤ gb300)); have n4_ := Aside0.mk ((by rw [hg]; exact (below_size (zb110)) : w.heap.size ≤ gb300)); have n5_ := Aside0.mk ((by rw [hg]; exact Nat.ne_of_lt (blk_lt (g := gb298) (o := .cells #[.int .i64 a0_0, .slice (some ad299) l0_1.length c0_1] 53 (0, 0)) (zb109)) : gb298 ≠ gb300)); have n6_ := Aside0.mk ((by rw [hg]; exact Nat.ne_of_gt (blk_lt (g := gb298) (o := .cells #[.int .i64 a0_0, .slice (some ad299) l0_1.length c0_1] 53 (0, 0)) (zb109)) : gb300 ≠ gb298)); clear BK298; clear HB; have BK298 := n0_; have HB := n1_; have BK300 := n2_; have GW300 := n3_; have GE300 := n4_; have NB298_300 := n5_; have NB300_298 := n6_; clear n0_ n1_ n2_ n3_ n4_ n5_ n6_; clear hb hbox hg; have hnb9 := NB300_298.out; have hnc9 := NB298_300.out; have hcz10_0 : w8.cell? ⟨gb300, 0, none⟩ = some (.int .i64 0) := (blk_cell BK300.out 0).trans rfl; have hcz10_1 : w8.cell? ⟨gb300, 1, none⟩ = some (.bool false) := (blk_cell BK300.out 1).trans rfl; have hfz10_0 := blk_frozen BK300.out 0; have hfz10_1 := blk_frozen BK300.out 1))
      (try simp only [Act.put, List.setIfInBounds_toArray, List.set_cons_zero, List.set_cons_succ])
      go_cut [25] (fun v25 wc => ∃ (kq : Nat) (x25_6 : Bool), v25 = .bool x25_6 ∧ Aside0 (impl_Marks_least.j1 kq x3_1 l0_1 (l0_1.length : Int) x9_1 x25_6 ((rd_T63 l0_1 x9_1).f0) ((rd_T63 l0_1 x9_1).f1) = some r) ∧ Aside0 (kq ≤ k1) ∧ Aside0 (wc.heap[gb298]? = some (.cells #[.int .i64 a0_0, (.slice (some ad299) l0_1.length c0_1)] 53 (0, 0))) ∧ Aside0 (wc.heap[gb300]? = some (.cells #[.int .i64 ((rd_T63 l0_1 x9_1).f0), .bool ((rd_T63 l0_1 x9_1).f1)] 63 (0, 0))) ∧ Aside0 (Below w.heap.size w wc))
      case first =>
       have H := HC7.out
       clear HC7
       obtain ⟨bq11, hbq11⟩ : ∃ b_ : Bool, b_ = ((rd_T63 l0_1 x9_1).f1) := ⟨_, rfl⟩
       replace H : (if (bq11 = true) then (impl_Marks_least.j1 k1 x3_1 l0_1 (l0_1.length : Int) x9_1 false ((rd_T63 l0_1 x9_1).f0) bq11) else (if x3_1 < 0 then (impl_Marks_least.j1 k1 x3_1 l0_1 (l0_1.length : Int) x9_1 true ((rd_T63 l0_1 x9_1).f0) bq11) else (impl_Marks_least.j1 k1 x3_1 l0_1 (l0_1.length : Int) x9_1 (decide (((rd_T63 l0_1 x9_1).f0) < x3_1)) ((rd_T63 l0_1 x9_1).f0) bq11))) = some r := by rw [← hbq11] at H; exact H
       have Nbq11 := Aside0.mk hbq11
       clear hbq11
       (try rw [← Nbq11.out])
       by_cases c12 : (bq11 = true)
       ·subst c12
        have H1 : (impl_Marks_least.j1 k1 x3_1 l0_1 (l0_1.length : Int) x9_1 false ((rd_T63 l0_1 x9_1).f0) true) = some r := by rw [if_pos rfl] at H; exact H
        clear H
        have H := H1
        clear H1
        have H' := Aside0.mk H
        clear H
        have hnb13 := NB300_298.out
        have hnc13 := NB298_300.out
        have hcz14_0 : w8.cell? ⟨gb300, 0, none⟩ = some (.int .i64 0) := (blk_cell BK300.out 0).trans rfl
        have hcz14_1 : w8.cell? ⟨gb300, 1, none⟩ = some (.bool false) := (blk_cell BK300.out 1).trans rfl
        have hfz14_0 := blk_frozen BK300.out 0
        have hfz14_1 := blk_frozen BK300.out 1
        go_wp2
        go_meet
        case rel => (first | exact ⟨_, (false), (zb1), H', ⟨zb15⟩, ⟨zb111⟩, ⟨zb112⟩, ⟨zb113⟩⟩ | (rw [← Nbq11.out]; exact ⟨_, (false), (zb1), H', ⟨zb15⟩, ⟨zb111⟩, ⟨zb112⟩, ⟨zb113⟩⟩))
       ·replace c12 := Bool.eq_false_iff.mpr c12
        subst c12
        have H1 : (if x3_1 < 0 then (impl_Marks_least.j1 k1 x3_1 l0_1 (l0_1.length : Int) x9_1 true ((rd_T63 l0_1 x9_1).f0) false) else (impl_Marks_least.j1 k1 x3_1 l0_1 (l0_1.length : Int) x9_1 (decide (((rd_T63 l0_1 x9_1).f0) < x3_1)) ((rd_T63 l0_1 x9_1).f0) false)) = some r := by rw [if_neg (show ¬ (false = true) by decide)] at H; exact H
        clear H
        have H := H1
        clear H1
        by_cases c15 : x3_1 < 0
        ·rw [if_pos c15] at H
         have c15b0 : decide (x3_1 < 0) = true := decide_eq_true c15
         clear c15
         have H' := Aside0.mk H
         clear H
         have hnb16 := NB300_298.out
         have hnc16 := NB298_300.out
         have hcz17_0 : w8.cell? ⟨gb300, 0, none⟩ = some (.int .i64 0) := (blk_cell BK300.out 0).trans rfl
         have hcz17_1 : w8.cell? ⟨gb300, 1, none⟩ = some (.bool false) := (blk_cell BK300.out 1).trans rfl
         have hfz17_0 := blk_frozen BK300.out 0
         have hfz17_1 := blk_frozen BK300.out 1
         go_wp2
         go_meet
         case rel => (first | exact ⟨_, (true), (zb1), H', ⟨zb15⟩, ⟨zb111⟩, ⟨zb112⟩, ⟨zb113⟩⟩ | (rw [← Nbq11.out]; exact ⟨_, (true), (zb1), H', ⟨zb15⟩, ⟨zb111⟩, ⟨zb112⟩, ⟨zb113⟩⟩))
        ·rw [if_neg c15] at H
         have c15b0 : decide (x3_1 < 0) = false := decide_eq_false c15
         clear c15
         have H' := Aside0.mk H
         clear H
         have hnb18 := NB300_298.out
         have hnc18 := NB298_300.out
         have hcz19_0 : w8.cell? ⟨gb300, 0, none⟩ = some (.int .i64 0) := (blk_cell BK300.out 0).trans rfl
         have hcz19_1 : w8.cell? ⟨gb300, 1, none⟩ = some (.bool false) := (blk_cell BK300.out 1).trans rfl
         have hfz19_0 := blk_frozen BK300.out 0
         have hfz19_1 := blk_frozen BK300.out 1
         go_wp2
         go_meet
         case rel => (first | exact ⟨_, (decide (((rd_T63 l0_1 x9_1).f0) < x3_1)), (zb1), H', ⟨zb15⟩, ⟨zb111⟩, ⟨zb112⟩, ⟨zb113⟩⟩ | (rw [← Nbq11.out]; exact ⟨_, (decide (((rd_T63 l0_1 x9_1).f0) < x3_1)), (zb1), H', ⟨zb15⟩, ⟨zb111⟩, ⟨zb112⟩, ⟨zb113⟩⟩))
      case rest =>
       clear HC7
       try clear c1
       try clear q1
       try clear p2
       try clear q2
       try clear hx2
       try clear c4
       try clear c4b0
       try clear c5
       try clear c5b0
       try clear c6
       try clear c6b0
       try clear c8
       try clear c9
       try clear q11
       try clear c12
       try clear c13
       try clear c15
       try clear c15b0
       try clear c16
       try clear c18
       try clear hcz10_0
       try clear hcz10_1
       try clear hcz14_0
       try clear hcz14_1
       try clear hcz17_0
       try clear hcz17_1
       try clear hcz19_0
       try clear hcz19_1
       try clear hcz3_0
       try clear hcz3_1
       try clear hfz10_0
       try clear hfz10_1
       try clear hfz14_0
       try clear hfz14_1
       try clear hfz17_0
       try clear hfz17_1
       try clear hfz19_0
       try clear hfz19_1
       try clear hfz3_0
       try clear hfz3_1
       try clear hx299_0
       try clear hx299_1
       try clear p2
       try clear p299
       try clear q299
       obtain ⟨kq, x25_6, rfl, HA, HJ6, BK298, BK300, HB⟩ := hcut
       cases kq with
       | zero => exact absurd HA.out (by simp [impl_Marks_least.j1])
       | succ kj6 =>
        have H := HA.out
        clear HA
        simp only [impl_Marks_least.j1] at H
        by_cases c20 : x25_6 = true
        ·subst c20
         have H1 : (impl_Marks_least.l0 kj6 ((rd_T63 l0_1 x9_1).f0) l0_1 (l0_1.length : Int) (wrap64 (x9_1 + 1))) = some r := by rw [if_pos rfl] at H; exact H
         clear H
         have H := H1
         clear H1
         have H' := Aside0.mk H
         clear H
         have hnb21 := NB300_298.out
         have hnc21 := NB298_300.out
         have hcz22_0 : wc.cell? ⟨gb300, 0, none⟩ = some (.int .i64 ((rd_T63 l0_1 x9_1).f0)) := (blk_cell BK300.out 0).trans rfl
         have hcz22_1 : wc.cell? ⟨gb300, 1, none⟩ = some (.bool ((rd_T63 l0_1 x9_1).f1)) := (blk_cell BK300.out 1).trans rfl
         have hfz22_0 := blk_frozen BK300.out 0
         have hfz22_1 := blk_frozen BK300.out 1
         go_wp2
         go_roundg kj6
         case measure => have := HK1.out; have := HJ6.out; omega
         case rel => (first | exact ⟨(((rd_T63 l0_1 x9_1).f0)), (wrap64 (x9_1 + 1)), (zb1), (zb1), H', ⟨zb114⟩, ⟨zb109⟩, ⟨zb113⟩⟩ | (rw [← Nbq11.out]; exact ⟨(((rd_T63 l0_1 x9_1).f0)), (wrap64 (x9_1 + 1)), (zb1), (zb1), H', ⟨zb114⟩, ⟨zb109⟩, ⟨zb113⟩⟩))
        ·replace c20 := Bool.eq_false_iff.mpr c20
         subst c20
         have H1 : (impl_Marks_least.l0 kj6 x3_1 l0_1 (l0_1.length : Int) (wrap64 (x9_1 + 1))) = some r := by rw [if_neg (show ¬ (false = true) by decide)] at H; exact H
         clear H
         have H := H1
         clear H1
         have H' := Aside0.mk H
         clear H
         go_wp2
         go_roundg kj6
         case measure => have := HK1.out; have := HJ6.out; omega
         case rel => (first | exact ⟨(x3_1), (wrap64 (x9_1 + 1)), (zb1), (zb1), H', ⟨zb114⟩, ⟨zb109⟩, ⟨zb113⟩⟩ | (rw [← Nbq11.out]; exact ⟨(x3_1), (wrap64 (x9_1 + 1)), (zb1), (zb1), H', ⟨zb114⟩, ⟨zb109⟩, ⟨zb113⟩⟩))
     ·rw [if_neg c6] at H
      exact absurd H (by simp)
    ·rw [if_neg c5] at H
     exact absurd H (by simp)
   ·rw [if_neg c4] at H
    have c4b0 : decide (x9_1 < (l0_1.length : Int)) = false := decide_eq_false c4
    clear c4
    obtain rfl := Option.some.inj H
    go_wp2
    go_ret
    exact ⟨zb5, zb110⟩

end Go.Proofs.Ytahnodgbfonlhaa.PFnMarks
