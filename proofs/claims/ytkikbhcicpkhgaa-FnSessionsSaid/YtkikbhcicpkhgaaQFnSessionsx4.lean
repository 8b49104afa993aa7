/- Contracts of the functions that the law FnSessions reaches, part 4: each says that the call returns what the Lean function of the same name computes. Made from a generated text by a program of this session. -/
import Derived.Test.YtkikbhcicpkhgaaQFnSessionsx0
import Derived.Test.YtkikbhcicpkhgaaQFnSessionsx2
import Derived.Test.YtkikbhcicpkhgaaQFnSessionsx3
namespace Go.Proofs.Ytkikbhcicpkhgaa.PFnSessions
open Go.RowKit Go.Proofs.YtkikbhcicpkhgaaW.PrintWords Go.Proofs.YtkikbhcicpkhgaaW.PrintLast Go.Proofs.YtkikbhcicpkhgaaW.PrintMore
attribute [local go_sem] max2_int min2_int max_two min_two max_three min_three max_four min_four   -- for this text's walks alone
set_option linter.unusedVariables false
set_option linter.unusedSimpArgs false

/-! ### spec_DrawSessOf: function 25 -/
mutual
def spec_DrawSessOf.j0 : Nat → List Int → Int → Int → Int → Int → Int → Option (Int × Int × Int × List Int)
 | 0, _, _, _, _, _, _ => none
 | k + 1, x211000, x211001, x211002, x215000, x215001, x215002 => (spec_l01Cur_size.f x211000 x211001 x211002 20).bind fun bt226 => (spec_DrawSessOf.l0 k (([] : List Int)) bt226.1 x211000 bt226.2.1 bt226.2.2 x215000 x215001 x215002)
def spec_DrawSessOf.l0 : Nat → List Int → Int → List Int → Int → Int → Int → Int → Int → Option (Int × Int × Int × List Int)
 | 0, _, _, _, _, _, _, _, _ => none
 | k + 1, x6, x7, x211000, x211001, x211002, x215000, x215001, x215002 => if x7 > 0 then ((spec_l01Cur_pick.f x211000 x211001 x211002 60).bind fun bt229 => (if x6.length < 17592186044416 then (spec_DrawSessOf.l0 k (x6 ++ [bt229.1]) (wrap64 (x7 - 1)) x211000 bt229.2.1 bt229.2.2 x215000 x215001 x215002) else (none))) else ((spec_l01Cur_pick.f x211000 x211001 x211002 12).bind fun bt235 => (if bt235.1 = 0 then ((spec_l01Cur_time.f x211000 bt235.2.1 bt235.2.2).bind fun bt238 => (if x6.length < 17592186044416 then (some (x215000, x215001, x215002, (x6 ++ [bt238.1]))) else (none))) else (if bt235.1 = 1 then ((spec_l01Cur_pick.f x211000 bt235.2.1 bt235.2.2 2).bind fun bt244 => (if 0 ≤ (wrap64 (300 + bt244.1)) then (if (wrap64 (300 + bt244.1) : Int).toNat ≤ 35184372088832 then (some (x215000, x215001, x215002, (List.replicate (wrap64 (300 + bt244.1) : Int).toNat 0))) else (none)) else (none))) else (some (x215000, x215001, x215002, x6)))))
end
def spec_DrawSessOf.f (k : Nat) (l0 : List Int) : Option (Int × Int × Int × List Int) := (spec_l01Open.f l0).bind fun bt207 => ((spec_l01Cur_pick.f bt207.1 bt207.2.1 bt207.2.2 9).bind fun bt211 => ((spec_l01Cur_once.f bt207.1 bt211.2.1 bt211.2.2 6).bind fun bt215 => (if bt215.1 = true then ((spec_l01Cur_badWin.f k bt207.1 bt215.2.1 bt215.2.2).bind fun bt218 => (spec_DrawSessOf.j0 k bt207.1 bt218.2.2.2.1 bt218.2.2.2.2 bt218.1 bt218.2.1 bt218.2.2.1)) else (spec_DrawSessOf.j0 k bt207.1 bt215.2.1 bt215.2.2 3 (wrap64 (1 + bt211.1)) 0))))
theorem spec_DrawSessOf.mono_l : ∀ k, (∀ y0 y1 y2 y3 y4 y5, LeO (spec_DrawSessOf.j0 k y0 y1 y2 y3 y4 y5) (spec_DrawSessOf.j0 (k + 1) y0 y1 y2 y3 y4 y5)) ∧ (∀ y0 y1 y2 y3 y4 y5 y6 y7, LeO (spec_DrawSessOf.l0 k y0 y1 y2 y3 y4 y5 y6 y7) (spec_DrawSessOf.l0 (k + 1) y0 y1 y2 y3 y4 y5 y6 y7))
 | 0 => ⟨fun _ _ _ _ _ _ r h => by simp [spec_DrawSessOf.j0] at h, fun _ _ _ _ _ _ _ _ r h => by simp [spec_DrawSessOf.l0] at h⟩
 | k + 1 => by
  obtain ⟨ih0, ih1⟩ := spec_DrawSessOf.mono_l k
  refine ⟨?_, ?_⟩
  ·intro y0 y1 y2 y3 y4 y5
   unfold spec_DrawSessOf.j0
   repeat' first
   | (with_reducible exact ih0 _ _ _ _ _ _)
   | (with_reducible exact ih1 _ _ _ _ _ _ _ _)
   | (with_reducible exact spec_l01Cur_badWin.mono _ _ _ _)
   | (with_reducible exact LeO.refl _)
   | (with_reducible exact LeO.none _)
   | (with_reducible refine LeO.ite ?_ ?_)
   | (with_reducible refine LeO.bind ?_ (fun _ => ?_))
   | exact ih0 _ _ _ _ _ _
   | exact ih1 _ _ _ _ _ _ _ _
   | exact spec_l01Cur_badWin.mono _ _ _ _
   | exact LeO.none _
   | refine LeO.ite ?_ ?_
   | refine LeO.bind ?_ (fun _ => ?_)
  ·intro y0 y1 y2 y3 y4 y5 y6 y7
   unfold spec_DrawSessOf.l0
   repeat' first
   | (with_reducible exact ih0 _ _ _ _ _ _)
   | (with_reducible exact ih1 _ _ _ _ _ _ _ _)
   | (with_reducible exact spec_l01Cur_badWin.mono _ _ _ _)
   | (with_reducible exact LeO.refl _)
   | (with_reducible exact LeO.none _)
   | (with_reducible refine LeO.ite ?_ ?_)
   | (with_reducible refine LeO.bind ?_ (fun _ => ?_))
   | exact ih0 _ _ _ _ _ _
   | exact ih1 _ _ _ _ _ _ _ _
   | exact spec_l01Cur_badWin.mono _ _ _ _
   | exact LeO.none _
   | refine LeO.ite ?_ ?_
   | refine LeO.bind ?_ (fun _ => ?_)
theorem spec_DrawSessOf.mono : ∀ a0 k, LeO (spec_DrawSessOf.f k a0) (spec_DrawSessOf.f (k + 1) a0) := by
 intro a0 k
 obtain ⟨ih0, ih1⟩ := spec_DrawSessOf.mono_l k
 unfold spec_DrawSessOf.f
 repeat' first
   | (with_reducible exact ih0 _ _ _ _ _ _)
   | (with_reducible exact ih1 _ _ _ _ _ _ _ _)
   | (with_reducible exact spec_l01Cur_badWin.mono _ _ _ _)
   | (with_reducible exact LeO.refl _)
   | (with_reducible exact LeO.none _)
   | (with_reducible refine LeO.ite ?_ ?_)
   | (with_reducible refine LeO.bind ?_ (fun _ => ?_))
   | exact ih0 _ _ _ _ _ _
   | exact ih1 _ _ _ _ _ _ _ _
   | exact spec_l01Cur_badWin.mono _ _ _ _
   | exact LeO.none _
   | refine LeO.ite ?_ ?_
   | refine LeO.bind ?_ (fun _ => ?_)
set_option maxHeartbeats 8000000 in
set_option maxRecDepth 100000 in
theorem spec_DrawSessOf.calls (k : Nat) (A0 : Option Addr) (c0 : Nat) (l0 : List Int) (r1 : Int) (r2 : Int) (r3 : Int) (r4 : List Int) (w : World) (hr0 : Kd.C (Kd.int .u8) w A0 l0.length l0) (hc0 : l0.length ≤ c0) (h : spec_DrawSessOf.f k l0 = some (r1, r2, r3, r4)) :
  Calls Try.prog 25 #[.slice A0 l0.length c0] w fun e w' => ∃ v3_ : Value, e = .returned (.tuple #[.agg #[.int .i64 r1, .int .i64 r2, .int .i64 r3], v3_]) ∧ Kd.R (Kd.int .i64) 3 w' w.heap.size (fun _ => True) v3_ r4 ∧ Below w.heap.size w w' := by
 have hu48 := Try.underlying48
 have HR0 := Aside0.mk hr0
 have HC0 := Aside0.mk hc0
 clear hr0 hc0
 have HB := Aside0.mk (Below.refl w.heap.size w)
 have H : ((spec_l01Open.f l0).bind fun bt207 => ((spec_l01Cur_pick.f bt207.1 bt207.2.1 bt207.2.2 9).bind fun bt211 => ((spec_l01Cur_once.f bt207.1 bt211.2.1 bt211.2.2 6).bind fun bt215 => (if bt215.1 = true then ((spec_l01Cur_badWin.f k bt207.1 bt215.2.1 bt215.2.2).bind fun bt218 => (spec_DrawSessOf.j0 k bt207.1 bt218.2.2.2.1 bt218.2.2.2.2 bt218.1 bt218.2.1 bt218.2.2.1)) else (spec_DrawSessOf.j0 k bt207.1 bt215.2.1 bt215.2.2 3 (wrap64 (1 + bt211.1)) 0))))) = some (r1, r2, r3, r4) := h
 clear h
 replace H := Option.bind_eq_some_iff.mp H
 obtain ⟨⟨t207, t208, t209⟩, A20, H⟩ := H
 replace H : ((spec_l01Cur_pick.f t207 t208 t209 9).bind fun bt211 => ((spec_l01Cur_once.f t207 bt211.2.1 bt211.2.2 6).bind fun bt215 => (if bt215.1 = true then ((spec_l01Cur_badWin.f k t207 bt215.2.1 bt215.2.2).bind fun bt218 => (spec_DrawSessOf.j0 k t207 bt218.2.2.2.1 bt218.2.2.2.2 bt218.1 bt218.2.1 bt218.2.2.1)) else (spec_DrawSessOf.j0 k t207 bt215.2.1 bt215.2.2 3 (wrap64 (1 + bt211.1)) 0)))) = some (r1, r2, r3, r4) := H
 have A2 := Aside0.mk A20
 clear A20
 replace H := Option.bind_eq_some_iff.mp H
 obtain ⟨⟨t211, t212, t213⟩, A30, H⟩ := H
 replace H : ((spec_l01Cur_once.f t207 t212 t213 6).bind fun bt215 => (if bt215.1 = true then ((spec_l01Cur_badWin.f k t207 bt215.2.1 bt215.2.2).bind fun bt218 => (spec_DrawSessOf.j0 k t207 bt218.2.2.2.1 bt218.2.2.2.2 bt218.1 bt218.2.1 bt218.2.2.1)) else (spec_DrawSessOf.j0 k t207 bt215.2.1 bt215.2.2 3 (wrap64 (1 + t211)) 0))) = some (r1, r2, r3, r4) := H
 have A3 := Aside0.mk A30
 clear A30
 replace H := Option.bind_eq_some_iff.mp H
 obtain ⟨⟨t215, t216, t217⟩, A40, H⟩ := H
 replace H : (if t215 = true then ((spec_l01Cur_badWin.f k t207 t216 t217).bind fun bt218 => (spec_DrawSessOf.j0 k t207 bt218.2.2.2.1 bt218.2.2.2.2 bt218.1 bt218.2.1 bt218.2.2.1)) else (spec_DrawSessOf.j0 k t207 t216 t217 3 (wrap64 (1 + t211)) 0)) = some (r1, r2, r3, r4) := H
 have A4 := Aside0.mk A40
 clear A40
 have HC5 := Aside0.mk H
 clear H
 go_enter Try.func25, Try.ntmps25
 go_upto_if 15 with (first | ((with_reducible refine gate_dst (N := 2) rfl ?_); refine box_event ?hg (N := 2) ?hd (cs := #[.int .i64 0, .int .i64 0, .int .i64 0]) (t := 48) ?hr ?_; (case hd => rfl); (case hg => rfl); (case hr => first | (go_simp; done) | (go_simp; rfl)); intro gb206 hg w6 hbox hb; have n0_ := Aside0.mk (below_step (zb3) hb); have n1_ := Aside0.mk (hbox); have n2_ := Aside0.mk ((by rw [hg]; exact (below_size (zb3)) : w.heap.size ≤ gb206)); have n3_ := Aside0.mk ((by rw [hg]; exact (below_size (zb3)) : w.heap.size ≤ gb206)); clear HB; have HB := n0_; have BK206 := n1_; have GW206 := n2_; have GE206 := n3_; clear n0_ n1_ n2_ n3_; clear hb hbox hg) | ((with_reducible refine gate_callee (f := 40) rfl ?_); refine goesL_ (some 9) rfl rfl Try.func40 (by kernel_rfl) rfl #[.slice A0 l0.length c0] rfl (zb10) ?_; (with_reducible refine (spec_l01Open.calls _ _ l0 t207 t208 t209 w _ ?side1 ?side2 ?side3 A2.out).mono ?_); (case side1 => repeat (first | (with_reducible first | exact HB.out | apply below_alloc | apply pw_below_drewN | apply below_drew1 | refine below_set ?_ GE206.out) | exact HB.out)); (case side2 => exact HR0.out); (case side3 => exact HC0.out); rintro e w7 ⟨g210, rfl, hi, hb, hb2⟩; refine ⟨_, rfl, ?_⟩; have n0_ := Aside0.mk (blk_below (g := gb206) (o := .cells #[.int .i64 0, .int .i64 0, .int .i64 0] 48 (0, 0)) (zb35) hb2); have n1_ := Aside0.mk (hb); have n2_ := Aside0.mk (hi); have n3_ := Aside0.mk (IsS116.ne_blk hi (blk_below (g := gb206) (o := .cells #[.int .i64 0, .int .i64 0, .int .i64 0] 48 (0, 0)) (zb35) hb2) (by decide)); have n4_ := Aside0.mk (Ne.symm (IsS116.ne_blk hi (blk_below (g := gb206) (o := .cells #[.int .i64 0, .int .i64 0, .int .i64 0] 48 (0, 0)) (zb35) hb2) (by decide))); clear BK206; clear HB; have BK206 := n0_; have HB := n1_; have HI210 := n2_; have NB210_206 := n3_; have NB206_210 := n4_; clear n0_ n1_ n2_ n3_ n4_; (try clear hb); (try clear hb2); (try clear hk); (try clear hi)) | ((with_reducible refine gate_callee (f := 42) rfl ?_); refine goesL_ (some 11) rfl rfl Try.func42 (by kernel_rfl) rfl #[.pointer (some ⟨g210, 0, none⟩), .int .i64 9] rfl (zb10) ?_; (with_reducible refine (spec_l01Cur_pick.calls g210 t207 t208 t209 9 t211 t212 t213 w _ ?side1 ?side2 A3.out).mono ?_); (case side1 => repeat (first | (with_reducible first | exact HI210.out | apply IsS116.alloc | apply IsS116.drewN | apply IsS116.drew | apply IsS116.set_1 | apply IsS116.set_2 | refine IsS116.far ?_ NB210_206.out _) | exact HI210.out)); (case side2 => repeat (first | (with_reducible first | exact HB.out | apply below_alloc | apply pw_below_drewN | apply below_drew1 | refine below_set ?_ (IsS116.ge HI210.out) | refine below_set ?_ GE206.out) | exact HB.out)); rintro e w8 ⟨rfl, hi, hb, hk⟩; refine ⟨_, rfl, ?_⟩; have n0_ := Aside0.mk (KeepBut.blk hk (g' := gb206) (o := .cells #[.int .i64 0, .int .i64 0, .int .i64 0] 48 (0, 0)) (zb35) NB206_210.out (by simp)); have n1_ := Aside0.mk (hb); have n2_ := Aside0.mk (hi); clear BK206; clear HB; clear HI210; have BK206 := n0_; have HB := n1_; have HI210 := n2_; clear n0_ n1_ n2_; (try clear hb); (try clear hb2); (try clear hk); (try clear hi)) | ((with_reducible refine gate_dst (N := 5) rfl ?_); refine box_event ?hg (N := 5) ?hd (cs := #[.int .i64 0, .int .i64 0, .int .i64 0]) (t := 48) ?hr ?_; (case hd => rfl); (case hg => rfl); (case hr => first | (go_simp; done) | (go_simp; rfl)); intro gb214 hg w9 hbox hb; have n0_ := Aside0.mk (blk_below (g := gb206) (o := .cells #[.int .i64 0, .int .i64 0, .int .i64 0] 48 (0, 0)) (zb35) hb); have n1_ := Aside0.mk (IsS116.below (zb36) hb); have n2_ := Aside0.mk (below_step (zb37) hb); have n3_ := Aside0.mk (hbox); have n4_ := Aside0.mk ((by rw [hg]; exact (below_size (zb37)) : w.heap.size ≤ gb214)); have n5_ := Aside0.mk ((by rw [hg]; exact (below_size (zb37)) : w.heap.size ≤ gb214)); have n6_ := Aside0.mk ((by rw [hg]; exact Nat.ne_of_lt (blk_lt (g := gb206) (o := .cells #[.int .i64 0, .int .i64 0, .int .i64 0] 48 (0, 0)) (zb35)) : gb206 ≠ gb214)); have n7_ := Aside0.mk ((by rw [hg]; exact Nat.ne_of_gt (blk_lt (g := gb206) (o := .cells #[.int .i64 0, .int .i64 0, .int .i64 0] 48 (0, 0)) (zb35)) : gb214 ≠ gb206)); have n8_ := Aside0.mk ((by rw [hg]; exact Nat.ne_of_lt (IsS116.lt (show IsS116 w _ g210 t207 t212 t213 from zb36)) : g210 ≠ gb214)); have n9_ := Aside0.mk ((by rw [hg]; exact Nat.ne_of_gt (IsS116.lt (show IsS116 w _ g210 t207 t212 t213 from zb36)) : gb214 ≠ g210)); clear BK206; clear HI210; clear HB; have BK206 := n0_; have HI210 := n1_; have HB := n2_; have BK214 := n3_; have GW214 := n4_; have GE214 := n5_; have NB206_214 := n6_; have NB214_206 := n7_; have NB210_214 := n8_; have NB214_210 := n9_; clear n0_ n1_ n2_ n3_ n4_ n5_ n6_ n7_ n8_ n9_; clear hb hbox hg; have hnb10 := NB214_206.out; have hnc10 := NB206_214.out; have hnb11 := NB214_210.out; have hnc11 := NB210_214.out; have hcz12_0 : w9.cell? ⟨gb214, 0, none⟩ = some (.int .i64 0) := (blk_cell BK214.out 0).trans rfl; have hcz12_1 : w9.cell? ⟨gb214, 1, none⟩ = some (.int .i64 0) := (blk_cell BK214.out 1).trans rfl; have hcz12_2 : w9.cell? ⟨gb214, 2, none⟩ = some (.int .i64 0) := (blk_cell BK214.out 2).trans rfl; have hfz12_0 := blk_frozen BK214.out 0; have hfz12_1 := blk_frozen BK214.out 1; have hfz12_2 := blk_frozen BK214.out 2) | ((with_reducible refine gate_callee (f := 67) rfl ?_); refine goesL_ (some 15) rfl rfl Try.func67 (by kernel_rfl) rfl #[.pointer (some ⟨g210, 0, none⟩), .int .i64 6] rfl (zb10) ?_; (with_reducible refine (spec_l01Cur_once.calls g210 t207 t212 t213 6 t215 t216 t217 w _ ?side1 ?side2 A4.out).mono ?_); (case side1 => repeat (first | (with_reducible first | exact HI210.out | apply IsS116.alloc | apply IsS116.drewN | apply IsS116.drew | apply IsS116.set_1 | apply IsS116.set_2 | refine IsS116.far ?_ NB210_206.out _ | refine IsS116.far ?_ NB210_214.out _) | exact HI210.out)); (case side2 => repeat (first | (with_reducible first | exact HB.out | apply below_alloc | apply pw_below_drewN | apply below_drew1 | refine below_set ?_ (IsS116.ge HI210.out) | refine below_set ?_ GE206.out | refine below_set ?_ GE214.out) | exact HB.out)); rintro e w13 ⟨rfl, hi, hb, hk⟩; refine ⟨_, rfl, ?_⟩; have n0_ := Aside0.mk (KeepBut.blk hk (g' := gb206) (o := .cells #[.int .i64 0, .int .i64 0, .int .i64 0] 48 (0, 0)) (zb38) NB206_210.out (by simp)); have n1_ := Aside0.mk (KeepBut.blk hk (g' := gb214) (o := .cells #[.int .i64 3, .int .i64 (wrap64 (1 + t211)), .int .i64 0] 48 (0, 0)) (by (with_reducible repeat (first | refine blk_drewN ?_ _ | refine blk_drew ?_ | refine blk_alloc ?_ _)); refine blk_put (cs := #[.int .i64 3, .int .i64 (wrap64 (1 + t211)), .int .i64 0]) ?_ 2 _ rfl; (with_reducible repeat (first | refine blk_drewN ?_ _ | refine blk_drew ?_ | refine blk_alloc ?_ _)); refine blk_put (cs := #[.int .i64 3, .int .i64 0, .int .i64 0]) ?_ 1 _ rfl; (with_reducible repeat (first | refine blk_drewN ?_ _ | refine blk_drew ?_ | refine blk_alloc ?_ _)); refine blk_put (cs := #[.int .i64 0, .int .i64 0, .int .i64 0]) ?_ 0 _ rfl; (with_reducible repeat (first | refine blk_drewN ?_ _ | refine blk_drew ?_ | refine blk_alloc ?_ _)); exact BK214.out) NB214_210.out (by simp)); have n2_ := Aside0.mk (hb); have n3_ := Aside0.mk (hi); clear BK206; clear BK214; clear HB; clear HI210; have BK206 := n0_; have BK214 := n1_; have HB := n2_; have HI210 := n3_; clear n0_ n1_ n2_ n3_; (try clear hb); (try clear hb2); (try clear hk); (try clear hi)))
 (try simp only [Act.put, List.setIfInBounds_toArray, List.set_cons_zero, List.set_cons_succ])
 go_cut [] (fun wc => ∃ (kq : Nat) (x211001_4 : Int) (x211002_4 : Int) (x215000_4 : Int) (x215001_4 : Int) (x215002_4 : Int), Aside0 (spec_DrawSessOf.j0 kq t207 x211001_4 x211002_4 x215000_4 x215001_4 x215002_4 = some (r1, r2, r3, r4)) ∧ Aside0 (kq ≤ k) ∧ Aside0 (wc.heap[gb206]? = some (.cells #[.int .i64 0, .int .i64 0, .int .i64 0] 48 (0, 0))) ∧ Aside0 (wc.heap[gb214]? = some (.cells #[.int .i64 x215000_4, .int .i64 x215001_4, .int .i64 x215002_4] 48 (0, 0))) ∧ Aside0 (IsS116 w wc g210 t207 x211001_4 x211002_4) ∧ Aside0 (Below w.heap.size w wc))
 case first =>
  have H := HC5.out
  clear HC5
  by_cases c14 : t215 = true
  ·subst c14
   have H1 : ((spec_l01Cur_badWin.f k t207 t216 t217).bind fun bt218 => (spec_DrawSessOf.j0 k t207 bt218.2.2.2.1 bt218.2.2.2.2 bt218.1 bt218.2.1 bt218.2.2.1)) = some (r1, r2, r3, r4) := by rw [if_pos rfl] at H; exact H
   clear H
   have H := H1
   clear H1
   replace H := Option.bind_eq_some_iff.mp H
   obtain ⟨⟨t218, t219, t220, t221, t222⟩, A150, H⟩ := H
   replace H : (spec_DrawSessOf.j0 k t207 t221 t222 t218 t219 t220) = some (r1, r2, r3, r4) := H
   have A15 := Aside0.mk A150
   clear A150
   have H' := Aside0.mk H
   clear H
   go_wp2_with (first | ((with_reducible refine gate_callee (f := 68) rfl ?_); refine goesL_ (some 17) rfl rfl Try.func68 (by kernel_rfl) rfl #[.pointer (some ⟨g210, 0, none⟩)] rfl (zb10) ?_; (with_reducible refine (spec_l01Cur_badWin.calls k g210 t207 t216 t217 t218 t219 t220 t221 t222 w _ ?side1 ?side2 A15.out).mono ?_); (case side1 => repeat (first | (with_reducible first | exact HI210.out | apply IsS116.alloc | apply IsS116.drewN | apply IsS116.drew | apply IsS116.set_1 | apply IsS116.set_2 | refine IsS116.far ?_ NB210_206.out _ | refine IsS116.far ?_ NB210_214.out _) | exact HI210.out)); (case side2 => repeat (first | (with_reducible first | exact HB.out | apply below_alloc | apply pw_below_drewN | apply below_drew1 | refine below_set ?_ (IsS116.ge HI210.out) | refine below_set ?_ GE206.out | refine below_set ?_ GE214.out) | exact HB.out)); rintro e w16 ⟨rfl, hi, hb, hk⟩; refine ⟨_, rfl, ?_⟩; have n0_ := Aside0.mk (KeepBut.blk hk (g' := gb206) (o := .cells #[.int .i64 0, .int .i64 0, .int .i64 0] 48 (0, 0)) (zb35) NB206_210.out (by simp)); have n1_ := Aside0.mk (KeepBut.blk hk (g' := gb214) (o := .cells #[.int .i64 3, .int .i64 (wrap64 (1 + t211)), .int .i64 0] 48 (0, 0)) (zb39) NB214_210.out (by simp)); have n2_ := Aside0.mk (hb); have n3_ := Aside0.mk (hi); clear BK206; clear BK214; clear HB; clear HI210; have BK206 := n0_; have BK214 := n1_; have HB := n2_; have HI210 := n3_; clear n0_ n1_ n2_ n3_; (try clear hb); (try clear hb2); (try clear hk); (try clear hi); have hnb17 := NB214_206.out; have hnc17 := NB206_214.out; have hnb18 := NB214_210.out; have hnc18 := NB210_214.out; have hcz19_0 : w16.cell? ⟨gb214, 0, none⟩ = some (.int .i64 3) := (blk_cell BK214.out 0).trans rfl; have hcz19_1 : w16.cell? ⟨gb214, 1, none⟩ = some (.int .i64 (wrap64 (1 + t211))) := (blk_cell BK214.out 1).trans rfl; have hcz19_2 : w16.cell? ⟨gb214, 2, none⟩ = some (.int .i64 0) := (blk_cell BK214.out 2).trans rfl; have hfz19_0 := blk_frozen BK214.out 0; have hfz19_1 := blk_frozen BK214.out 1; have hfz19_2 := blk_frozen BK214.out 2))
   go_meet
   case rel => exact ⟨_, (t221), (t222), (t218), (t219), (t220), H', ⟨zb19⟩, ⟨zb38⟩, ⟨by (with_reducible repeat (first | refine blk_drewN ?_ _ | refine blk_drew ?_ | refine blk_alloc ?_ _)); refine blk_put (cs := #[.int .i64 t218, .int .i64 t219, .int .i64 0]) ?_ 2 _ rfl; (with_reducible repeat (first | refine blk_drewN ?_ _ | refine blk_drew ?_ | refine blk_alloc ?_ _)); refine blk_put (cs := #[.int .i64 t218, .int .i64 (wrap64 (1 + t211)), .int .i64 0]) ?_ 1 _ rfl; (with_reducible repeat (first | refine blk_drewN ?_ _ | refine blk_drew ?_ | refine blk_alloc ?_ _)); refine blk_put (cs := #[.int .i64 3, .int .i64 (wrap64 (1 + t211)), .int .i64 0]) ?_ 0 _ rfl; (with_reducible repeat (first | refine blk_drewN ?_ _ | refine blk_drew ?_ | refine blk_alloc ?_ _)); exact BK214.out⟩, ⟨zb40⟩, ⟨zb41⟩⟩
  ·replace c14 := Bool.eq_false_iff.mpr c14
   subst c14
   have H1 : (spec_DrawSessOf.j0 k t207 t216 t217 3 (wrap64 (1 + t211)) 0) = some (r1, r2, r3, r4) := by rw [if_neg (show ¬ (false = true) by decide)] at H; exact H
   clear H
   have H := H1
   clear H1
   have H' := Aside0.mk H
   clear H
   go_wp2
   go_meet
   case rel => exact ⟨_, (t216), (t217), (3), (wrap64 (1 + t211)), (0), H', ⟨zb19⟩, ⟨zb35⟩, ⟨zb39⟩, ⟨zb40⟩, ⟨zb41⟩⟩
 case rest =>
  clear HC5
  try clear c1
  try clear c2
  try clear p2
  try clear c4
  try clear c6
  try clear p6
  try clear c10
  try clear c11
  try clear c14
  try clear c17
  try clear c18
  try clear hcz12_0
  try clear hcz12_1
  try clear hcz12_2
  try clear hcz19_0
  try clear hcz19_1
  try clear hcz19_2
  try clear hfz12_0
  try clear hfz12_1
  try clear hfz12_2
  try clear hfz19_0
  try clear hfz19_1
  try clear hfz19_2
  obtain ⟨kq, x211001_4, x211002_4, x215000_4, x215001_4, x215002_4, HA, HJ4, BK206, BK214, HI210, HB⟩ := hcut
  cases kq with
  | zero => exact absurd HA.out (by simp [spec_DrawSessOf.j0])
  | succ kj4 =>
   have H := HA.out
   clear HA
   simp only [spec_DrawSessOf.j0] at H
   obtain ⟨y223, hy223⟩ : ∃ y_ : List Int, y_ = (([] : List Int)) := ⟨_, rfl⟩
   replace H : ((spec_l01Cur_size.f t207 x211001_4 x211002_4 20).bind fun bt226 => (spec_DrawSessOf.l0 kj4 y223 bt226.1 t207 bt226.2.1 bt226.2.2 x215000_4 x215001_4 x215002_4)) = some (r1, r2, r3, r4) := by first | (rw [hy223]; with_reducible exact H) | (have H2_ := (Option.bind_some _ _).symm.trans H; rw [hy223]; with_reducible exact H2_) | (have H2_ := (Option.bind_some _ _).symm.trans H; with_reducible exact H2_) | with_reducible exact H | (rw [hy223]; exact H) | exact H
   have Ny223 := Aside0.mk hy223
   clear hy223
   replace H := Option.bind_eq_some_iff.mp H
   obtain ⟨⟨t226, t227, t228⟩, A200, H⟩ := H
   replace H : (spec_DrawSessOf.l0 kj4 y223 t226 t207 t227 t228 x215000_4 x215001_4 x215002_4) = some (r1, r2, r3, r4) := H
   have A20 := Aside0.mk A200
   clear A200
   have H' := Aside0.mk H
   clear H
   go_wp2_with (first | ((with_reducible refine gate_dst (N := 18) rfl ?_); refine Kd.R_lit (Kd.int .i64) _ 3 ?hg (N := 18) ?hd (xs := ([] : List Int)) (inner := []) (ok := fun _ => True) (okp := fun _ => True) ?hr ?hp (fun _ hk => hk) trivial (Below.refl _ _) (Nat.le_refl _) (by simp) ?_; (case hd => rfl); (case hg => rfl); (case hr => first | (go_simp; done) | (go_simp; rfl)); (case hp => exact (Reps.none _ _)); intro v224 w21 ho22 hb hg_ hnew_; clear hg_ hnew_; (first | rw [← Ny223.out] at ho22 | (simp only [Int.reduceToNat] at ho22; rw [← Ny223.out] at ho22)); have n0_ := Aside0.mk (Kd.R_lower ho22 (below_size (zb41))); have n1_ := Aside0.mk (blk_below (g := gb206) (o := .cells #[.int .i64 0, .int .i64 0, .int .i64 0] 48 (0, 0)) (zb35) hb); have n2_ := Aside0.mk (blk_below (g := gb214) (o := .cells #[.int .i64 x215000_4, .int .i64 x215001_4, .int .i64 x215002_4] 48 (0, 0)) (zb39) hb); have n3_ := Aside0.mk (IsS116.below (zb40) hb); have n4_ := Aside0.mk (below_step (zb41) hb); clear BK206; clear BK214; clear HI210; clear HB; have HO225 := n0_; have BK206 := n1_; have BK214 := n2_; have HI210 := n3_; have HB := n4_; clear n0_ n1_ n2_ n3_ n4_; clear hb ho22) | ((with_reducible refine gate_callee (f := 69) rfl ?_); refine goesL_ (some 20) rfl rfl Try.func69 (by kernel_rfl) rfl #[.pointer (some ⟨g210, 0, none⟩), .int .i64 20] rfl (zb10) ?_; (with_reducible refine (spec_l01Cur_size.calls g210 t207 x211001_4 x211002_4 20 t226 t227 t228 w _ ?side1 ?side2 A20.out).mono ?_); (case side1 => repeat (first | (with_reducible first | exact HI210.out | apply IsS116.alloc | apply IsS116.drewN | apply IsS116.drew | apply IsS116.set_1 | apply IsS116.set_2 | refine IsS116.far ?_ NB210_206.out _ | refine IsS116.far ?_ NB210_214.out _) | exact HI210.out)); (case side2 => repeat (first | (with_reducible first | exact HB.out | apply below_alloc | apply pw_below_drewN | apply below_drew1 | refine below_set ?_ (IsS116.ge HI210.out) | refine below_set ?_ GE206.out | refine below_set ?_ GE214.out) | exact HB.out)); rintro e w23 ⟨rfl, hi, hb, hk⟩; refine ⟨_, rfl, ?_⟩; have n0_ := Aside0.mk (KeepBut.blk hk (g' := gb206) (o := .cells #[.int .i64 0, .int .i64 0, .int .i64 0] 48 (0, 0)) (zb35) NB206_210.out (by simp)); have n1_ := Aside0.mk (KeepBut.blk hk (g' := gb214) (o := .cells #[.int .i64 x215000_4, .int .i64 x215001_4, .int .i64 x215002_4] 48 (0, 0)) (zb39) NB214_210.out (by simp)); have n2_ := Aside0.mk (Kd.R_mono (Kd.R_keep (IsS116.apart (show IsS116 w _ g210 t207 x211001_4 x211002_4 from zb40) (by (with_reducible repeat (first | apply Kd.R_alloc | apply Kd.R_drewN | apply Kd.R_drew)); exact HO225.out) (by decide)) hk (fun _ h => h.2)) (fun _ h => h.1)); have n3_ := Aside0.mk (hb); have n4_ := Aside0.mk (hi); clear BK206; clear BK214; clear HO225; clear HB; clear HI210; have BK206 := n0_; have BK214 := n1_; have HO225 := n2_; have HB := n3_; have HI210 := n4_; clear n0_ n1_ n2_ n3_ n4_; (try clear hb); (try clear hb2); (try clear hk); (try clear hi)))
   go_loopg [6, 7] kj4 (fun kq v6 v7 w' => ∃ (x6_2 : List Int) (x7_2 : Int) (x211001_2 : Int) (x211002_2 : Int), v7 = .int .i64 x7_2 ∧ Aside0 (spec_DrawSessOf.l0 kq x6_2 x7_2 t207 x211001_2 x211002_2 x215000_4 x215001_4 x215002_4 = some (r1, r2, r3, r4)) ∧ Aside0 (kq ≤ kj4) ∧ Aside0 (Kd.R (Kd.int .i64) 3 w' w.heap.size (fun _ => True) v6 x6_2) ∧ Aside0 (w'.heap[gb206]? = some (.cells #[.int .i64 0, .int .i64 0, .int .i64 0] 48 (0, 0))) ∧ Aside0 (w'.heap[gb214]? = some (.cells #[.int .i64 x215000_4, .int .i64 x215001_4, .int .i64 x215002_4] 48 (0, 0))) ∧ Aside0 (IsS116 w w' g210 t207 x211001_2 x211002_2) ∧ Aside0 (Below w.heap.size w w'))
   case atStart => exact ⟨(y223), (t226), (t227), (t228), (zb1), H', ⟨Nat.le_refl _⟩, ⟨by (with_reducible repeat (first | apply Kd.R_alloc | apply Kd.R_drewN | apply Kd.R_drew)); exact HO225.out⟩, ⟨zb35⟩, ⟨zb39⟩, ⟨zb40⟩, ⟨zb41⟩⟩
   case round =>
    clear H'
    try clear c1
    try clear c2
    try clear p2
    try clear c4
    try clear c6
    try clear p6
    try clear c10
    try clear c11
    try clear c14
    try clear c17
    try clear c18
    try clear hcz12_0
    try clear hcz12_1
    try clear hcz12_2
    try clear hcz19_0
    try clear hcz19_1
    try clear hcz19_2
    try clear hfz12_0
    try clear hfz12_1
    try clear hfz12_2
    try clear hfz19_0
    try clear hfz19_1
    try clear hfz19_2
    try clear p2
    try clear p6
    obtain ⟨x6_2, x7_2, x211001_2, x211002_2, rfl, HA, HK2, HO_6, BK206, BK214, HI210, HB⟩ := hrel
    cases gk with
    | zero => exact absurd HA.out (by simp [spec_DrawSessOf.l0])
    | succ k2 =>
     have H := HA.out
     clear HA
     simp only [spec_DrawSessOf.l0] at H
     by_cases c24 : x7_2 > 0
     ·rw [if_pos c24] at H
      have c24b0 : decide (0 < x7_2) = true := decide_eq_true c24
      clear c24
      replace H := Option.bind_eq_some_iff.mp H
      obtain ⟨⟨t229, t230, t231⟩, A250, H⟩ := H
      replace H : (if x6_2.length < 17592186044416 then (spec_DrawSessOf.l0 k2 (x6_2 ++ [t229]) (wrap64 (x7_2 - 1)) t207 t230 t231 x215000_4 x215001_4 x215002_4) else (none)) = some (r1, r2, r3, r4) := H
      have A25 := Aside0.mk A250
      clear A250
      by_cases c26 : x6_2.length < 17592186044416
      ·rw [if_pos c26] at H
       have LMc26 := Aside0.mk c26
       clear c26
       obtain ⟨y232, hy232⟩ : ∃ y_ : List Int, y_ = (x6_2 ++ [t229]) := ⟨_, rfl⟩
       replace H : (spec_DrawSessOf.l0 k2 y232 (wrap64 (x7_2 - 1)) t207 t230 t231 x215000_4 x215001_4 x215002_4) = some (r1, r2, r3, r4) := by first | (rw [hy232]; with_reducible exact H) | (have H2_ := (Option.bind_some _ _).symm.trans H; rw [hy232]; with_reducible exact H2_) | (have H2_ := (Option.bind_some _ _).symm.trans H; with_reducible exact H2_) | with_reducible exact H | (rw [hy232]; exact H) | exact H
       have Ny232 := Aside0.mk hy232
       clear hy232
       have H' := Aside0.mk H
       clear H
       go_wp2_with (first | ((with_reducible refine gate_callee (f := 42) rfl ?_); refine goesL_ (some 27) rfl rfl Try.func42 (by kernel_rfl) rfl #[.pointer (some ⟨g210, 0, none⟩), .int .i64 60] rfl (zb10) ?_; (with_reducible refine (spec_l01Cur_pick.calls g210 t207 x211001_2 x211002_2 60 t229 t230 t231 w _ ?side1 ?side2 A25.out).mono ?_); (case side1 => repeat (first | (with_reducible first | exact HI210.out | apply IsS116.alloc | apply IsS116.drewN | apply IsS116.drew | apply IsS116.set_1 | apply IsS116.set_2 | refine IsS116.far ?_ NB210_206.out _ | refine IsS116.far ?_ NB210_214.out _) | exact HI210.out)); (case side2 => repeat (first | (with_reducible first | exact HB.out | apply below_alloc | apply pw_below_drewN | apply below_drew1 | refine below_set ?_ (IsS116.ge HI210.out) | refine below_set ?_ GE206.out | refine below_set ?_ GE214.out) | exact HB.out)); rintro e w27 ⟨rfl, hi, hb, hk⟩; refine ⟨_, rfl, ?_⟩; have n0_ := Aside0.mk (Kd.R_mono (Kd.R_keep (IsS116.apart (show IsS116 w _ g210 t207 x211001_2 x211002_2 from zb40) (zb42) (by decide)) hk (fun _ h => h.2)) (fun _ h => h.1)); have n1_ := Aside0.mk (KeepBut.blk hk (g' := gb206) (o := .cells #[.int .i64 0, .int .i64 0, .int .i64 0] 48 (0, 0)) (zb35) NB206_210.out (by simp)); have n2_ := Aside0.mk (KeepBut.blk hk (g' := gb214) (o := .cells #[.int .i64 x215000_4, .int .i64 x215001_4, .int .i64 x215002_4] 48 (0, 0)) (zb39) NB214_210.out (by simp)); have n3_ := Aside0.mk (hb); have n4_ := Aside0.mk (hi); clear HO_6; clear BK206; clear BK214; clear HB; clear HI210; have HO_6 := n0_; have BK206 := n1_; have BK214 := n2_; have HB := n3_; have HI210 := n4_; clear n0_ n1_ n2_ n3_ n4_; (try clear hb); (try clear hb2); (try clear hk); (try clear hi)) | ((with_reducible refine gate_builtin (b := .append) (xs := #[.tmp 25, .tmp 28]) rfl ?_); at_builtin; refine Kd.R_append (Kd.int .i64) (w0 := w) w.heap.size rfl (.tmp 25) (.tmp 28) 34 3 (.int .i64 0) 8 rfl Try.underlying34 info3 rfl (by decide) (by omega) u6 x6_2 t229 [.int .i64 t229] (fun _ => True) (fun _ => False) rfl rfl ?aP (fun _ hk => hk.elim) ?aF ?aO ?aB ?aS ?aL ?_; (case aP => exact rfl); (case aB => exact (zb41)); (case aF => exact (fun _ _ => trivial)); (case aO => exact (zb42)); (case aS => exact (below_size (zb41))); (case aL => have := LMc26.out; omega); intro v233 w28 ho hb hg hat; rw [← Ny232.out] at ho; have n0_ := Aside0.mk (blk_grown (g := gb206) (o := .cells #[.int .i64 0, .int .i64 0, .int .i64 0] 48 (0, 0)) (zb35) hg (Kd.R_ne HO_6.out BK206.out (by decide))); have n1_ := Aside0.mk (blk_grown (g := gb214) (o := .cells #[.int .i64 x215000_4, .int .i64 x215001_4, .int .i64 x215002_4] 48 (0, 0)) (zb39) hg (Kd.R_ne HO_6.out BK214.out (by decide))); have n2_ := Aside0.mk (IsS116.grown (zb40) hg (IsS116.own_ne HI210.out HO_6.out (by decide))); have n3_ := Aside0.mk (hb); have n4_ := Aside0.mk (ho); clear BK206; clear BK214; clear HI210; clear HB; clear HO_6; have BK206 := n0_; have BK214 := n1_; have HI210 := n2_; have HB := n3_; have HO234 := n4_; clear n0_ n1_ n2_ n3_ n4_; clear ho hb hg hat))
       go_roundg k2
       case measure => have := HJ4.out; have := HK2.out; omega
       case rel => exact ⟨(y232), (wrap64 (x7_2 - 1)), (t230), (t231), (zb1), H', ⟨by have := HJ4.out; have := HK2.out; omega⟩, ⟨by (with_reducible repeat (first | apply Kd.R_alloc | apply Kd.R_drewN | apply Kd.R_drew)); exact HO234.out⟩, ⟨zb35⟩, ⟨zb39⟩, ⟨zb40⟩, ⟨zb41⟩⟩
      ·rw [if_neg c26] at H
       exact absurd H (by simp)
     ·rw [if_neg c24] at H
      have c24b0 : decide (0 < x7_2) = false := decide_eq_false c24
      clear c24
      replace H := Option.bind_eq_some_iff.mp H
      obtain ⟨⟨t235, t236, t237⟩, A290, H⟩ := H
      replace H : (if t235 = 0 then ((spec_l01Cur_time.f t207 t236 t237).bind fun bt238 => (if x6_2.length < 17592186044416 then (some (x215000_4, x215001_4, x215002_4, (x6_2 ++ [bt238.1]))) else (none))) else (if t235 = 1 then ((spec_l01Cur_pick.f t207 t236 t237 2).bind fun bt244 => (if 0 ≤ (wrap64 (300 + bt244.1)) then (if (wrap64 (300 + bt244.1) : Int).toNat ≤ 35184372088832 then (some (x215000_4, x215001_4, x215002_4, (List.replicate (wrap64 (300 + bt244.1) : Int).toNat 0))) else (none)) else (none))) else (some (x215000_4, x215001_4, x215002_4, x6_2)))) = some (r1, r2, r3, r4) := H
      have A29 := Aside0.mk A290
      clear A290
      by_cases c30 : t235 = 0
      ·rw [if_pos c30] at H
       have c30b0 : (t235 == 0) = true := beq_iff_eq.mpr c30
       have c30b1 : (t235 != 0) = false := bne_eq_false_iff_eq.mpr c30
       clear c30
       replace H := Option.bind_eq_some_iff.mp H
       obtain ⟨⟨t238, t239, t240⟩, A310, H⟩ := H
       replace H : (if x6_2.length < 17592186044416 then (some (x215000_4, x215001_4, x215002_4, (x6_2 ++ [t238]))) else (none)) = some (r1, r2, r3, r4) := H
       have A31 := Aside0.mk A310
       clear A310
       by_cases c32 : x6_2.length < 17592186044416
       ·rw [if_pos c32] at H
        have LMc32 := Aside0.mk c32
        clear c32
        obtain ⟨y241, hy241⟩ : ∃ y_ : List Int, y_ = (x6_2 ++ [t238]) := ⟨_, rfl⟩
        replace H : (some (x215000_4, x215001_4, x215002_4, y241)) = some (r1, r2, r3, r4) := by first | (rw [hy241]; with_reducible exact H) | (have H2_ := (Option.bind_some _ _).symm.trans H; rw [hy241]; with_reducible exact H2_) | (have H2_ := (Option.bind_some _ _).symm.trans H; with_reducible exact H2_) | with_reducible exact H | (rw [hy241]; exact H) | exact H
        have Ny241 := Aside0.mk hy241
        clear hy241
        simp only [Option.some.injEq, Prod.mk.injEq] at H
        obtain ⟨rfl, rfl, rfl, rfl⟩ := H
        go_wp2_with (first | ((with_reducible refine gate_callee (f := 42) rfl ?_); refine goesL_ (some 31) rfl rfl Try.func42 (by kernel_rfl) rfl #[.pointer (some ⟨g210, 0, none⟩), .int .i64 12] rfl (zb10) ?_; (with_reducible refine (spec_l01Cur_pick.calls g210 t207 x211001_2 x211002_2 12 t235 t236 t237 w _ ?side1 ?side2 A29.out).mono ?_); (case side1 => repeat (first | (with_reducible first | exact HI210.out | apply IsS116.alloc | apply IsS116.drewN | apply IsS116.drew | apply IsS116.set_1 | apply IsS116.set_2 | refine IsS116.far ?_ NB210_206.out _ | refine IsS116.far ?_ NB210_214.out _) | exact HI210.out)); (case side2 => repeat (first | (with_reducible first | exact HB.out | apply below_alloc | apply pw_below_drewN | apply below_drew1 | refine below_set ?_ (IsS116.ge HI210.out) | refine below_set ?_ GE206.out | refine below_set ?_ GE214.out) | exact HB.out)); rintro e w33 ⟨rfl, hi, hb, hk⟩; refine ⟨_, rfl, ?_⟩; have n0_ := Aside0.mk (Kd.R_mono (Kd.R_keep (IsS116.apart (show IsS116 w _ g210 t207 x211001_2 x211002_2 from zb40) (zb42) (by decide)) hk (fun _ h => h.2)) (fun _ h => h.1)); have n1_ := Aside0.mk (KeepBut.blk hk (g' := gb206) (o := .cells #[.int .i64 0, .int .i64 0, .int .i64 0] 48 (0, 0)) (zb35) NB206_210.out (by simp)); have n2_ := Aside0.mk (KeepBut.blk hk (g' := gb214) (o := .cells #[.int .i64 x215000_4, .int .i64 x215001_4, .int .i64 x215002_4] 48 (0, 0)) (zb39) NB214_210.out (by simp)); have n3_ := Aside0.mk (hb); have n4_ := Aside0.mk (hi); clear HO_6; clear BK206; clear BK214; clear HB; clear HI210; have HO_6 := n0_; have BK206 := n1_; have BK214 := n2_; have HB := n3_; have HI210 := n4_; clear n0_ n1_ n2_ n3_ n4_; (try clear hb); (try clear hb2); (try clear hk); (try clear hi)) | ((with_reducible refine gate_callee (f := 70) rfl ?_); refine goesL_ (some 36) rfl rfl Try.func70 (by kernel_rfl) rfl #[.pointer (some ⟨g210, 0, none⟩)] rfl (zb10) ?_; (with_reducible refine (spec_l01Cur_time.calls g210 t207 t236 t237 t238 t239 t240 w _ ?side1 ?side2 A31.out).mono ?_); (case side1 => repeat (first | (with_reducible first | exact HI210.out | apply IsS116.alloc | apply IsS116.drewN | apply IsS116.drew | apply IsS116.set_1 | apply IsS116.set_2 | refine IsS116.far ?_ NB210_206.out _ | refine IsS116.far ?_ NB210_214.out _) | exact HI210.out)); (case side2 => repeat (first | (with_reducible first | exact HB.out | apply below_alloc | apply pw_below_drewN | apply below_drew1 | refine below_set ?_ (IsS116.ge HI210.out) | refine below_set ?_ GE206.out | refine below_set ?_ GE214.out) | exact HB.out)); rintro e w34 ⟨rfl, hi, hb, hk⟩; refine ⟨_, rfl, ?_⟩; have n0_ := Aside0.mk (Kd.R_mono (Kd.R_keep (IsS116.apart (show IsS116 w _ g210 t207 t236 t237 from zb40) (zb42) (by decide)) hk (fun _ h => h.2)) (fun _ h => h.1)); have n1_ := Aside0.mk (KeepBut.blk hk (g' := gb206) (o := .cells #[.int .i64 0, .int .i64 0, .int .i64 0] 48 (0, 0)) (zb35) NB206_210.out (by simp)); have n2_ := Aside0.mk (KeepBut.blk hk (g' := gb214) (o := .cells #[.int .i64 x215000_4, .int .i64 x215001_4, .int .i64 x215002_4] 48 (0, 0)) (zb39) NB214_210.out (by simp)); have n3_ := Aside0.mk (hb); have n4_ := Aside0.mk (hi); clear HO_6; clear BK206; clear BK214; clear HB; clear HI210; have HO_6 := n0_; have BK206 := n1_; have BK214 := n2_; have HB := n3_; have HI210 := n4_; clear n0_ n1_ n2_ n3_ n4_; (try clear hb); (try clear hb2); (try clear hk); (try clear hi)) | ((with_reducible refine gate_builtin (b := .append) (xs := #[.tmp 34, .tmp 37]) rfl ?_); at_builtin; refine Kd.R_append (Kd.int .i64) (w0 := w) w.heap.size rfl (.tmp 34) (.tmp 37) 34 3 (.int .i64 0) 8 rfl Try.underlying34 info3 rfl (by decide) (by omega) u6 x6_2 t238 [.int .i64 t238] (fun _ => True) (fun _ => False) rfl rfl ?aP (fun _ hk => hk.elim) ?aF ?aO ?aB ?aS ?aL ?_; (case aP => exact rfl); (case aB => exact (zb41)); (case aF => exact (fun _ _ => trivial)); (case aO => exact (zb42)); (case aS => exact (below_size (zb41))); (case aL => have := LMc32.out; omega); intro v242 w35 ho hb hg hat; rw [← Ny241.out] at ho; have n0_ := Aside0.mk (blk_grown (g := gb206) (o := .cells #[.int .i64 0, .int .i64 0, .int .i64 0] 48 (0, 0)) (zb35) hg (Kd.R_ne HO_6.out BK206.out (by decide))); have n1_ := Aside0.mk (blk_grown (g := gb214) (o := .cells #[.int .i64 x215000_4, .int .i64 x215001_4, .int .i64 x215002_4] 48 (0, 0)) (zb39) hg (Kd.R_ne HO_6.out BK214.out (by decide))); have n2_ := Aside0.mk (IsS116.grown (zb40) hg (IsS116.own_ne HI210.out HO_6.out (by decide))); have n3_ := Aside0.mk (hb); have n4_ := Aside0.mk (ho); clear BK206; clear BK214; clear HI210; clear HB; clear HO_6; have BK206 := n0_; have BK214 := n1_; have HI210 := n2_; have HB := n3_; have HO243 := n4_; clear n0_ n1_ n2_ n3_ n4_; clear ho hb hg hat; have hnb36 := NB214_206.out; have hnc36 := NB206_214.out; have hnb37 := NB214_210.out; have hnc37 := NB210_214.out; have hcz38_0 : w35.cell? ⟨gb214, 0, none⟩ = some (.int .i64 x215000_4) := (blk_cell BK214.out 0).trans rfl; have hcz38_1 : w35.cell? ⟨gb214, 1, none⟩ = some (.int .i64 x215001_4) := (blk_cell BK214.out 1).trans rfl; have hcz38_2 : w35.cell? ⟨gb214, 2, none⟩ = some (.int .i64 x215002_4) := (blk_cell BK214.out 2).trans rfl; have hfz38_0 := blk_frozen BK214.out 0; have hfz38_1 := blk_frozen BK214.out 1; have hfz38_2 := blk_frozen BK214.out 2; have hnb39 := NB206_210.out; have hnc39 := NB210_206.out; have hcz40_0 : w35.cell? ⟨gb206, 0, none⟩ = some (.int .i64 0) := (blk_cell BK206.out 0).trans rfl; have hcz40_1 : w35.cell? ⟨gb206, 1, none⟩ = some (.int .i64 0) := (blk_cell BK206.out 1).trans rfl; have hcz40_2 : w35.cell? ⟨gb206, 2, none⟩ = some (.int .i64 0) := (blk_cell BK206.out 2).trans rfl; have hfz40_0 := blk_frozen BK206.out 0; have hfz40_1 := blk_frozen BK206.out 1; have hfz40_2 := blk_frozen BK206.out 2))
        refine bodyPost_ret (results_ct rfl _ _ gb206 48 #[.int .i64 x215000_4, .int .i64 x215001_4, .int .i64 x215002_4] (0, 0) _ rfl (zb43) Try.underlying48 rfl (by kernel_rfl)) rfl ?_
        exact ⟨_, zb5, by (with_reducible repeat (first | apply Kd.R_alloc | apply Kd.R_drewN | apply Kd.R_drew)); exact Kd.R_mono (Kd.R_far (p := ⟨gb206, 2, none⟩) (Kd.R_far (p := ⟨gb206, 1, none⟩) (Kd.R_far (p := ⟨gb206, 0, none⟩) (Kd.R_types HO243.out BK206.out (by decide)) (fun _ hk => hk.2) (.int .i64 x215000_4)) (fun _ hk => hk.2) (.int .i64 x215001_4)) (fun _ hk => hk.2) (.int .i64 x215002_4)) (fun _ hk => trivial), zb41⟩
       ·rw [if_neg c32] at H
        exact absurd H (by simp)
      ·rw [if_neg c30] at H
       have c30b0 : (t235 == 0) = false := beq_eq_false_iff_ne.mpr c30
       have c30b1 : (t235 != 0) = true := bne_iff_ne.mpr c30
       by_cases c41 : t235 = 1
       ·rw [if_pos c41] at H
        have c41b0 : (t235 == 1) = true := beq_iff_eq.mpr c41
        have c41b1 : (t235 != 1) = false := bne_eq_false_iff_eq.mpr c41
        clear c41
        replace H := Option.bind_eq_some_iff.mp H
        obtain ⟨⟨t244, t245, t246⟩, A420, H⟩ := H
        replace H : (if 0 ≤ (wrap64 (300 + t244)) then (if (wrap64 (300 + t244) : Int).toNat ≤ 35184372088832 then (some (x215000_4, x215001_4, x215002_4, (List.replicate (wrap64 (300 + t244) : Int).toNat 0))) else (none)) else (none)) = some (r1, r2, r3, r4) := H
        have A42 := Aside0.mk A420
        clear A420
        obtain ⟨ji43, hji43⟩ : ∃ j_ : Int, (wrap64 (300 + t244)) = j_ := ⟨_, rfl⟩
        replace H : (if 0 ≤ (ji43) then (if (ji43 : Int).toNat ≤ 35184372088832 then (some (x215000_4, x215001_4, x215002_4, (List.replicate (ji43 : Int).toNat 0))) else (none)) else (none)) = some (r1, r2, r3, r4) := by first | (rw [hji43] at H; exact H) | (simp only [hji43] at H ⊢; exact H)
        (try rw [hji43] at A29)
        (try rw [hji43] at A42)
        have hji43w : (IntKind.i64.wrap (300 + t244)) = ji43 := (i64_w _).trans hji43
        by_cases c44 : 0 ≤ (ji43)
        ·rw [if_pos c44] at H
         have c44b0 := eq_true c44
         have c44b1 : decide (0 ≤ (ji43)) = true := decide_eq_true c44
         clear c44
         by_cases c45 : (ji43 : Int).toNat ≤ 35184372088832
         ·rw [if_pos c45] at H
          have c45b0 := eq_true c45
          have c45b1 : decide ((ji43 : Int).toNat ≤ 35184372088832) = true := decide_eq_true c45
          clear c45
          obtain ⟨y247, hy247⟩ : ∃ y_ : List Int, y_ = (List.replicate (ji43 : Int).toNat 0) := ⟨_, rfl⟩
          replace H : (some (x215000_4, x215001_4, x215002_4, y247)) = some (r1, r2, r3, r4) := by first | (rw [hy247]; with_reducible exact H) | (have H2_ := (Option.bind_some _ _).symm.trans H; rw [hy247]; with_reducible exact H2_) | (have H2_ := (Option.bind_some _ _).symm.trans H; with_reducible exact H2_) | with_reducible exact H | (rw [hy247]; exact H) | exact H
          have Ny247 := Aside0.mk hy247
          clear hy247
          simp only [Option.some.injEq, Prod.mk.injEq] at H
          obtain ⟨rfl, rfl, rfl, rfl⟩ := H
          go_wp2_with (first | ((with_reducible refine gate_callee (f := 42) rfl ?_); refine goesL_ (some 31) rfl rfl Try.func42 (by kernel_rfl) rfl #[.pointer (some ⟨g210, 0, none⟩), .int .i64 12] rfl (zb10) ?_; (with_reducible refine (spec_l01Cur_pick.calls g210 t207 x211001_2 x211002_2 12 t235 t236 t237 w _ ?side1 ?side2 A29.out).mono ?_); (case side1 => repeat (first | (with_reducible first | exact HI210.out | apply IsS116.alloc | apply IsS116.drewN | apply IsS116.drew | apply IsS116.set_1 | apply IsS116.set_2 | refine IsS116.far ?_ NB210_206.out _ | refine IsS116.far ?_ NB210_214.out _) | exact HI210.out)); (case side2 => repeat (first | (with_reducible first | exact HB.out | apply below_alloc | apply pw_below_drewN | apply below_drew1 | refine below_set ?_ (IsS116.ge HI210.out) | refine below_set ?_ GE206.out | refine below_set ?_ GE214.out) | exact HB.out)); rintro e w46 ⟨rfl, hi, hb, hk⟩; refine ⟨_, rfl, ?_⟩; have n0_ := Aside0.mk (Kd.R_mono (Kd.R_keep (IsS116.apart (show IsS116 w _ g210 t207 x211001_2 x211002_2 from zb40) (zb42) (by decide)) hk (fun _ h => h.2)) (fun _ h => h.1)); have n1_ := Aside0.mk (KeepBut.blk hk (g' := gb206) (o := .cells #[.int .i64 0, .int .i64 0, .int .i64 0] 48 (0, 0)) (zb35) NB206_210.out (by simp)); have n2_ := Aside0.mk (KeepBut.blk hk (g' := gb214) (o := .cells #[.int .i64 x215000_4, .int .i64 x215001_4, .int .i64 x215002_4] 48 (0, 0)) (zb39) NB214_210.out (by simp)); have n3_ := Aside0.mk (hb); have n4_ := Aside0.mk (hi); clear HO_6; clear BK206; clear BK214; clear HB; clear HI210; have HO_6 := n0_; have BK206 := n1_; have BK214 := n2_; have HB := n3_; have HI210 := n4_; clear n0_ n1_ n2_ n3_ n4_; (try clear hb); (try clear hb2); (try clear hk); (try clear hi)) | ((with_reducible refine gate_callee (f := 42) rfl ?_); refine goesL_ (some 42) rfl rfl Try.func42 (by kernel_rfl) rfl #[.pointer (some ⟨g210, 0, none⟩), .int .i64 2] rfl (zb10) ?_; (with_reducible refine (spec_l01Cur_pick.calls g210 t207 t236 t237 2 t244 t245 t246 w _ ?side1 ?side2 A42.out).mono ?_); (case side1 => repeat (first | (with_reducible first | exact HI210.out | apply IsS116.alloc | apply IsS116.drewN | apply IsS116.drew | apply IsS116.set_1 | apply IsS116.set_2 | refine IsS116.far ?_ NB210_206.out _ | refine IsS116.far ?_ NB210_214.out _) | exact HI210.out)); (case side2 => repeat (first | (with_reducible first | exact HB.out | apply below_alloc | apply pw_below_drewN | apply below_drew1 | refine below_set ?_ (IsS116.ge HI210.out) | refine below_set ?_ GE206.out | refine below_set ?_ GE214.out) | exact HB.out)); rintro e w47 ⟨rfl, hi, hb, hk⟩; refine ⟨_, rfl, ?_⟩; have n0_ := Aside0.mk (Kd.R_mono (Kd.R_keep (IsS116.apart (show IsS116 w _ g210 t207 t236 t237 from zb40) (zb42) (by decide)) hk (fun _ h => h.2)) (fun _ h => h.1)); have n1_ := Aside0.mk (KeepBut.blk hk (g' := gb206) (o := .cells #[.int .i64 0, .int .i64 0, .int .i64 0] 48 (0, 0)) (zb35) NB206_210.out (by simp)); have n2_ := Aside0.mk (KeepBut.blk hk (g' := gb214) (o := .cells #[.int .i64 x215000_4, .int .i64 x215001_4, .int .i64 x215002_4] 48 (0, 0)) (zb39) NB214_210.out (by simp)); have n3_ := Aside0.mk (hb); have n4_ := Aside0.mk (hi); clear HO_6; clear BK206; clear BK214; clear HB; clear HI210; have HO_6 := n0_; have BK206 := n1_; have BK214 := n2_; have HB := n3_; have HI210 := n4_; clear n0_ n1_ n2_ n3_ n4_; (try clear hb); (try clear hb2); (try clear hk); (try clear hi)) | ((with_reducible refine gate_dst (N := 44) rfl ?_); refine Kd.R_make (Kd.int .i64) _ 3 rfl (N := 44) rfl 34 _ _ rfl ji43 rfl rfl Try.underlying34 (.int .i64 0) 8 info3 rfl (by decide) (by omega) 0 (ok := fun _ => True) (okp := fun _ => True) rfl (fun _ hk => hk) trivial (of_decide_eq_true (zb9)) (Nat.le_trans (Nat.mul_le_mul_right _ (of_decide_eq_true (zb9) : ji43.toNat ≤ 35184372088832)) (by omega)) (Below.refl _ _) (Nat.le_refl _) ?_; intro v248 w48 ho49 hb hg_ hnew_; clear hg_ hnew_; (first | rw [← Ny247.out] at ho49 | (simp only [Int.reduceToNat] at ho49; rw [← Ny247.out] at ho49)); have n0_ := Aside0.mk (Kd.R_elder' (zb42) (Kd.R_base ho49) hb); have n1_ := Aside0.mk (Kd.R_lower (Kd.R_new' ho49 (Kd.R_lt (zb42))) (below_size (zb41))); have n2_ := Aside0.mk (blk_below (g := gb206) (o := .cells #[.int .i64 0, .int .i64 0, .int .i64 0] 48 (0, 0)) (zb35) hb); have n3_ := Aside0.mk (blk_below (g := gb214) (o := .cells #[.int .i64 x215000_4, .int .i64 x215001_4, .int .i64 x215002_4] 48 (0, 0)) (zb39) hb); have n4_ := Aside0.mk (IsS116.below (zb40) hb); have n5_ := Aside0.mk (below_step (zb41) hb); clear HO_6; clear BK206; clear BK214; clear HI210; clear HB; have HO_6 := n0_; have HO249 := n1_; have BK206 := n2_; have BK214 := n3_; have HI210 := n4_; have HB := n5_; clear n0_ n1_ n2_ n3_ n4_ n5_; clear hb ho49; have hnb50 := NB214_206.out; have hnc50 := NB206_214.out; have hnb51 := NB214_210.out; have hnc51 := NB210_214.out; have hcz52_0 : w48.cell? ⟨gb214, 0, none⟩ = some (.int .i64 x215000_4) := (blk_cell BK214.out 0).trans rfl; have hcz52_1 : w48.cell? ⟨gb214, 1, none⟩ = some (.int .i64 x215001_4) := (blk_cell BK214.out 1).trans rfl; have hcz52_2 : w48.cell? ⟨gb214, 2, none⟩ = some (.int .i64 x215002_4) := (blk_cell BK214.out 2).trans rfl; have hfz52_0 := blk_frozen BK214.out 0; have hfz52_1 := blk_frozen BK214.out 1; have hfz52_2 := blk_frozen BK214.out 2; have hnb53 := NB206_210.out; have hnc53 := NB210_206.out; have hcz54_0 : w48.cell? ⟨gb206, 0, none⟩ = some (.int .i64 0) := (blk_cell BK206.out 0).trans rfl; have hcz54_1 : w48.cell? ⟨gb206, 1, none⟩ = some (.int .i64 0) := (blk_cell BK206.out 1).trans rfl; have hcz54_2 : w48.cell? ⟨gb206, 2, none⟩ = some (.int .i64 0) := (blk_cell BK206.out 2).trans rfl; have hfz54_0 := blk_frozen BK206.out 0; have hfz54_1 := blk_frozen BK206.out 1; have hfz54_2 := blk_frozen BK206.out 2))
          refine bodyPost_ret (results_ct rfl _ _ gb206 48 #[.int .i64 x215000_4, .int .i64 x215001_4, .int .i64 x215002_4] (0, 0) _ rfl (zb43) Try.underlying48 rfl (by kernel_rfl)) rfl ?_
          exact ⟨_, by first | rfl | (simp [errW_none, errW_some] <;> rfl) | (simp only [← hji43]; first | rfl | (simp [errW_none, errW_some] <;> rfl)) | (simp [*, errW_none, errW_some] <;> rfl), by (with_reducible repeat (first | apply Kd.R_alloc | apply Kd.R_drewN | apply Kd.R_drew)); exact Kd.R_mono (Kd.R_far (p := ⟨gb206, 2, none⟩) (Kd.R_far (p := ⟨gb206, 1, none⟩) (Kd.R_far (p := ⟨gb206, 0, none⟩) (Kd.R_types HO249.out BK206.out (by decide)) (fun _ hk => hk.2) (.int .i64 x215000_4)) (fun _ hk => hk.2) (.int .i64 x215001_4)) (fun _ hk => hk.2) (.int .i64 x215002_4)) (fun _ hk => trivial), zb41⟩
         ·rw [if_neg c45] at H
          exact absurd H (by simp)
        ·rw [if_neg c44] at H
         exact absurd H (by simp)
       ·rw [if_neg c41] at H
        have c41b0 : (t235 == 1) = false := beq_eq_false_iff_ne.mpr c41
        have c41b1 : (t235 != 1) = true := bne_iff_ne.mpr c41
        simp only [Option.some.injEq, Prod.mk.injEq] at H
        obtain ⟨rfl, rfl, rfl, rfl⟩ := H
        go_wp2_with (first | ((with_reducible refine gate_callee (f := 42) rfl ?_); refine goesL_ (some 31) rfl rfl Try.func42 (by kernel_rfl) rfl #[.pointer (some ⟨g210, 0, none⟩), .int .i64 12] rfl (zb10) ?_; (with_reducible refine (spec_l01Cur_pick.calls g210 t207 x211001_2 x211002_2 12 t235 t236 t237 w _ ?side1 ?side2 A29.out).mono ?_); (case side1 => repeat (first | (with_reducible first | exact HI210.out | apply IsS116.alloc | apply IsS116.drewN | apply IsS116.drew | apply IsS116.set_1 | apply IsS116.set_2 | refine IsS116.far ?_ NB210_206.out _ | refine IsS116.far ?_ NB210_214.out _) | exact HI210.out)); (case side2 => repeat (first | (with_reducible first | exact HB.out | apply below_alloc | apply pw_below_drewN | apply below_drew1 | refine below_set ?_ (IsS116.ge HI210.out) | refine below_set ?_ GE206.out | refine below_set ?_ GE214.out) | exact HB.out)); rintro e w55 ⟨rfl, hi, hb, hk⟩; refine ⟨_, rfl, ?_⟩; have n0_ := Aside0.mk (Kd.R_mono (Kd.R_keep (IsS116.apart (show IsS116 w _ g210 t207 x211001_2 x211002_2 from zb40) (zb42) (by decide)) hk (fun _ h => h.2)) (fun _ h => h.1)); have n1_ := Aside0.mk (KeepBut.blk hk (g' := gb206) (o := .cells #[.int .i64 0, .int .i64 0, .int .i64 0] 48 (0, 0)) (zb35) NB206_210.out (by simp)); have n2_ := Aside0.mk (KeepBut.blk hk (g' := gb214) (o := .cells #[.int .i64 x215000_4, .int .i64 x215001_4, .int .i64 x215002_4] 48 (0, 0)) (zb39) NB214_210.out (by simp)); have n3_ := Aside0.mk (hb); have n4_ := Aside0.mk (hi); clear HO_6; clear BK206; clear BK214; clear HB; clear HI210; have HO_6 := n0_; have BK206 := n1_; have BK214 := n2_; have HB := n3_; have HI210 := n4_; clear n0_ n1_ n2_ n3_ n4_; (try clear hb); (try clear hb2); (try clear hk); (try clear hi); have hnb56 := NB214_206.out; have hnc56 := NB206_214.out; have hnb57 := NB214_210.out; have hnc57 := NB210_214.out; have hcz58_0 : w55.cell? ⟨gb214, 0, none⟩ = some (.int .i64 x215000_4) := (blk_cell BK214.out 0).trans rfl; have hcz58_1 : w55.cell? ⟨gb214, 1, none⟩ = some (.int .i64 x215001_4) := (blk_cell BK214.out 1).trans rfl; have hcz58_2 : w55.cell? ⟨gb214, 2, none⟩ = some (.int .i64 x215002_4) := (blk_cell BK214.out 2).trans rfl; have hfz58_0 := blk_frozen BK214.out 0; have hfz58_1 := blk_frozen BK214.out 1; have hfz58_2 := blk_frozen BK214.out 2; have hnb59 := NB206_210.out; have hnc59 := NB210_206.out; have hcz60_0 : w55.cell? ⟨gb206, 0, none⟩ = some (.int .i64 0) := (blk_cell BK206.out 0).trans rfl; have hcz60_1 : w55.cell? ⟨gb206, 1, none⟩ = some (.int .i64 0) := (blk_cell BK206.out 1).trans rfl; have hcz60_2 : w55.cell? ⟨gb206, 2, none⟩ = some (.int .i64 0) := (blk_cell BK206.out 2).trans rfl; have hfz60_0 := blk_frozen BK206.out 0; have hfz60_1 := blk_frozen BK206.out 1; have hfz60_2 := blk_frozen BK206.out 2))
        refine bodyPost_ret (results_ct rfl _ _ gb206 48 #[.int .i64 x215000_4, .int .i64 x215001_4, .int .i64 x215002_4] (0, 0) _ rfl (zb43) Try.underlying48 rfl (by kernel_rfl)) rfl ?_
        exact ⟨_, zb5, by (with_reducible repeat (first | apply Kd.R_alloc | apply Kd.R_drewN | apply Kd.R_drew)); exact Kd.R_mono (Kd.R_far (p := ⟨gb206, 2, none⟩) (Kd.R_far (p := ⟨gb206, 1, none⟩) (Kd.R_far (p := ⟨gb206, 0, none⟩) (Kd.R_types HO_6.out BK206.out (by decide)) (fun _ hk => hk.2) (.int .i64 x215000_4)) (fun _ hk => hk.2) (.int .i64 x215001_4)) (fun _ hk => hk.2) (.int .i64 x215002_4)) (fun _ hk => trivial), zb41⟩

/-! ### spec_WinOk: function 71 -/
def spec_WinOk.j0 : Nat → Bool → Int → Int → Int → Option (Bool)
 | 0, _, _, _, _ => none
 | k + 1, x20, x251000, x251001, x251002 => if x20 = true then (some false) else (if x251000 = 2 then (if x251002 ≥ 1 then (if x251002 ≤ x251001 then (some (decide (x251001 ≤ (wrap64 (8 * x251002))))) else (some false)) else (some false)) else (some (x251002 == 0)))
def spec_WinOk.f (k : Nat) (a0_0 : Int) (a0_1 : Int) (a0_2 : Int) : Option (Bool) := if a0_0 < 1 then (spec_WinOk.j0 k true a0_0 a0_1 a0_2) else (if a0_0 > 3 then (spec_WinOk.j0 k true a0_0 a0_1 a0_2) else (if a0_1 < 1 then (spec_WinOk.j0 k true a0_0 a0_1 a0_2) else (spec_WinOk.j0 k (decide (a0_1 > 100)) a0_0 a0_1 a0_2)))
theorem spec_WinOk.mono_l : ∀ k, (∀ y0 y1 y2 y3, LeO (spec_WinOk.j0 k y0 y1 y2 y3) (spec_WinOk.j0 (k + 1) y0 y1 y2 y3))
 | 0 => fun _ _ _ _ r h => by simp [spec_WinOk.j0] at h
 | k + 1 => by
  have ih0 := spec_WinOk.mono_l k
  ·intro y0 y1 y2 y3
   unfold spec_WinOk.j0
   repeat' first
   | (with_reducible exact ih0 _ _ _ _)
   | (with_reducible exact LeO.refl _)
   | (with_reducible exact LeO.none _)
   | (with_reducible refine LeO.ite ?_ ?_)
   | (with_reducible refine LeO.bind ?_ (fun _ => ?_))
   | exact ih0 _ _ _ _
   | exact LeO.none _
   | refine LeO.ite ?_ ?_
   | refine LeO.bind ?_ (fun _ => ?_)
theorem spec_WinOk.mono : ∀ a0 a1 a2 k, LeO (spec_WinOk.f k a0 a1 a2) (spec_WinOk.f (k + 1) a0 a1 a2) := by
 intro a0 a1 a2 k
 have ih0 := spec_WinOk.mono_l k
 unfold spec_WinOk.f
 repeat' first
   | (with_reducible exact ih0 _ _ _ _)
   | (with_reducible exact LeO.refl _)
   | (with_reducible exact LeO.none _)
   | (with_reducible refine LeO.ite ?_ ?_)
   | (with_reducible refine LeO.bind ?_ (fun _ => ?_))
   | exact ih0 _ _ _ _
   | exact LeO.none _
   | refine LeO.ite ?_ ?_
   | refine LeO.bind ?_ (fun _ => ?_)
set_option maxHeartbeats 8000000 in
set_option maxRecDepth 100000 in
theorem spec_WinOk.calls (k : Nat) (a0_0 : Int) (a0_1 : Int) (a0_2 : Int) (r : Bool) (w : World) (h : spec_WinOk.f k a0_0 a0_1 a0_2 = some r) :
  Calls Try.prog 71 #[.agg #[.int .i64 a0_0, .int .i64 a0_1, .int .i64 a0_2]] w fun e w' => e = .returned (.bool r) ∧ Below w.heap.size w w' := by
 have hu48 := Try.underlying48
 have HB := Aside0.mk (Below.refl w.heap.size w)
 have H : (if a0_0 < 1 then (spec_WinOk.j0 k true a0_0 a0_1 a0_2) else (if a0_0 > 3 then (spec_WinOk.j0 k true a0_0 a0_1 a0_2) else (if a0_1 < 1 then (spec_WinOk.j0 k true a0_0 a0_1 a0_2) else (spec_WinOk.j0 k (decide (a0_1 > 100)) a0_0 a0_1 a0_2)))) = some r := h
 clear h
 have HC2 := Aside0.mk H
 clear H
 go_enter Try.func71, Try.ntmps71
 go_upto_region 1 with (first | ((with_reducible refine gate_dst (N := 1) rfl ?_); refine box_event ?hg (N := 1) ?hd (cs := #[.int .i64 a0_0, .int .i64 a0_1, .int .i64 a0_2]) (t := 48) ?hr ?_; (case hd => rfl); (case hg => rfl); (case hr => first | (go_simp; done) | (go_simp; rfl)); intro gb250 hg w3 hbox hb; have n0_ := Aside0.mk (below_step (zb3) hb); have n1_ := Aside0.mk (hbox); have n2_ := Aside0.mk ((by rw [hg]; exact (below_size (zb3)) : w.heap.size ≤ gb250)); have n3_ := Aside0.mk ((by rw [hg]; exact (below_size (zb3)) : w.heap.size ≤ gb250)); clear HB; have HB := n0_; have BK250 := n1_; have GW250 := n2_; have GE250 := n3_; clear n0_ n1_ n2_ n3_; clear hb hbox hg))
 (try simp only [Act.put, List.setIfInBounds_toArray, List.set_cons_zero, List.set_cons_succ])
 go_cut [20] (fun v20 wc => ∃ (kq : Nat) (x20_1 : Bool), v20 = .bool x20_1 ∧ Aside0 (spec_WinOk.j0 kq x20_1 a0_0 a0_1 a0_2 = some r) ∧ Aside0 (kq ≤ k) ∧ Aside0 (wc.heap[gb250]? = some (.cells #[.int .i64 a0_0, .int .i64 a0_1, .int .i64 a0_2] 48 (0, 0))) ∧ Aside0 (Below w.heap.size w wc))
 case first =>
  have H := HC2.out
  clear HC2
  by_cases c4 : a0_0 < 1
  ·rw [if_pos c4] at H
   have c4b0 : decide (a0_0 < 1) = true := decide_eq_true c4
   clear c4
   (first | rw [c4b0] | (simp only [i64_w, i32_w]; rw [c4b0]) | skip)
   have H' := Aside0.mk H
   clear H
   have hcz5_0 : w3.cell? ⟨gb250, 0, none⟩ = some (.int .i64 a0_0) := (blk_cell BK250.out 0).trans rfl
   have hcz5_1 : w3.cell? ⟨gb250, 1, none⟩ = some (.int .i64 a0_1) := (blk_cell BK250.out 1).trans rfl
   have hcz5_2 : w3.cell? ⟨gb250, 2, none⟩ = some (.int .i64 a0_2) := (blk_cell BK250.out 2).trans rfl
   have hfz5_0 := blk_frozen BK250.out 0
   have hfz5_1 := blk_frozen BK250.out 1
   have hfz5_2 := blk_frozen BK250.out 2
   go_wp2
   go_meet
   case rel => exact ⟨_, (true), (zb1), H', ⟨zb19⟩, ⟨zb44⟩, ⟨zb45⟩⟩
  ·rw [if_neg c4] at H
   have c4b0 : decide (a0_0 < 1) = false := decide_eq_false c4
   clear c4
   (first | rw [c4b0] | (simp only [i64_w, i32_w]; rw [c4b0]) | skip)
   by_cases c6 : a0_0 > 3
   ·rw [if_pos c6] at H
    have c6b0 : decide (3 < a0_0) = true := decide_eq_true c6
    clear c6
    have H' := Aside0.mk H
    clear H
    have hcz7_0 : w3.cell? ⟨gb250, 0, none⟩ = some (.int .i64 a0_0) := (blk_cell BK250.out 0).trans rfl
    have hcz7_1 : w3.cell? ⟨gb250, 1, none⟩ = some (.int .i64 a0_1) := (blk_cell BK250.out 1).trans rfl
    have hcz7_2 : w3.cell? ⟨gb250, 2, none⟩ = some (.int .i64 a0_2) := (blk_cell BK250.out 2).trans rfl
    have hfz7_0 := blk_frozen BK250.out 0
    have hfz7_1 := blk_frozen BK250.out 1
    have hfz7_2 := blk_frozen BK250.out 2
    go_wp2
    go_meet
    case rel => exact ⟨_, (true), (zb1), H', ⟨zb19⟩, ⟨zb44⟩, ⟨zb45⟩⟩
   ·rw [if_neg c6] at H
    have c6b0 : decide (3 < a0_0) = false := decide_eq_false c6
    clear c6
    by_cases c8 : a0_1 < 1
    ·rw [if_pos c8] at H
     have c8b0 : decide (a0_1 < 1) = true := decide_eq_true c8
     clear c8
     have H' := Aside0.mk H
     clear H
     have hcz9_0 : w3.cell? ⟨gb250, 0, none⟩ = some (.int .i64 a0_0) := (blk_cell BK250.out 0).trans rfl
     have hcz9_1 : w3.cell? ⟨gb250, 1, none⟩ = some (.int .i64 a0_1) := (blk_cell BK250.out 1).trans rfl
     have hcz9_2 : w3.cell? ⟨gb250, 2, none⟩ = some (.int .i64 a0_2) := (blk_cell BK250.out 2).trans rfl
     have hfz9_0 := blk_frozen BK250.out 0
     have hfz9_1 := blk_frozen BK250.out 1
     have hfz9_2 := blk_frozen BK250.out 2
     go_wp2
     go_meet
     case rel => exact ⟨_, (true), (zb1), H', ⟨zb19⟩, ⟨zb44⟩, ⟨zb45⟩⟩
    ·rw [if_neg c8] at H
     have c8b0 : decide (a0_1 < 1) = false := decide_eq_false c8
     clear c8
     have H' := Aside0.mk H
     clear H
     have hcz10_0 : w3.cell? ⟨gb250, 0, none⟩ = some (.int .i64 a0_0) := (blk_cell BK250.out 0).trans rfl
     have hcz10_1 : w3.cell? ⟨gb250, 1, none⟩ = some (.int .i64 a0_1) := (blk_cell BK250.out 1).trans rfl
     have hcz10_2 : w3.cell? ⟨gb250, 2, none⟩ = some (.int .i64 a0_2) := (blk_cell BK250.out 2).trans rfl
     have hfz10_0 := blk_frozen BK250.out 0
     have hfz10_1 := blk_frozen BK250.out 1
     have hfz10_2 := blk_frozen BK250.out 2
     go_wp2
     go_meet
     case rel => exact ⟨_, (decide (a0_1 > 100)), (zb1), H', ⟨zb19⟩, ⟨zb44⟩, ⟨zb45⟩⟩
 case rest =>
  clear HC2
  try clear p2
  try clear c4
  try clear c4b0
  try clear c6
  try clear c6b0
  try clear c7
  try clear c8
  try clear c8b0
  try clear hcz10_0
  try clear hcz10_1
  try clear hcz10_2
  try clear hcz5_0
  try clear hcz5_1
  try clear hcz5_2
  try clear hcz7_0
  try clear hcz7_1
  try clear hcz7_2
  try clear hcz9_0
  try clear hcz9_1
  try clear hcz9_2
  try clear hfz10_0
  try clear hfz10_1
  try clear hfz10_2
  try clear hfz5_0
  try clear hfz5_1
  try clear hfz5_2
  try clear hfz7_0
  try clear hfz7_1
  try clear hfz7_2
  try clear hfz9_0
  try clear hfz9_1
  try clear hfz9_2
  obtain ⟨kq, x20_1, rfl, HA, HJ1, BK250, HB⟩ := hcut
  cases kq with
  | zero => exact absurd HA.out (by simp [spec_WinOk.j0])
  | succ kj1 =>
   have H := HA.out
   clear HA
   simp only [spec_WinOk.j0] at H
   by_cases c11 : x20_1 = true
   ·subst c11
    have H1 : (some false) = some r := by rw [if_pos rfl] at H; exact H
    clear H
    have H := H1
    clear H1
    obtain rfl := Option.some.inj H
    go_wp2
    go_ret
    exact ⟨zb5, zb45⟩
   ·replace c11 := Bool.eq_false_iff.mpr c11
    subst c11
    have H1 : (if a0_0 = 2 then (if a0_2 ≥ 1 then (if a0_2 ≤ a0_1 then (some (decide (a0_1 ≤ (wrap64 (8 * a0_2))))) else (some false)) else (some false)) else (some (a0_2 == 0))) = some r := by rw [if_neg (show ¬ (false = true) by decide)] at H; exact H
    clear H
    have H := H1
    clear H1
    by_cases c12 : a0_0 = 2
    ·rw [if_pos c12] at H
     have c12b0 : (a0_0 == 2) = true := beq_iff_eq.mpr c12
     have c12b1 : (a0_0 != 2) = false := bne_eq_false_iff_eq.mpr c12
     clear c12
     by_cases c13 : a0_2 ≥ 1
     ·rw [if_pos c13] at H
      have c13b0 : decide (1 ≤ a0_2) = true := decide_eq_true c13
      clear c13
      by_cases c14 : a0_2 ≤ a0_1
      ·rw [if_pos c14] at H
       have c14b0 : decide (a0_2 ≤ a0_1) = true := decide_eq_true c14
       clear c14
       obtain rfl := Option.some.inj H
       have hcz15_0 : wc.cell? ⟨gb250, 0, none⟩ = some (.int .i64 a0_0) := (blk_cell BK250.out 0).trans rfl
       have hcz15_1 : wc.cell? ⟨gb250, 1, none⟩ = some (.int .i64 a0_1) := (blk_cell BK250.out 1).trans rfl
       have hcz15_2 : wc.cell? ⟨gb250, 2, none⟩ = some (.int .i64 a0_2) := (blk_cell BK250.out 2).trans rfl
       have hfz15_0 := blk_frozen BK250.out 0
       have hfz15_1 := blk_frozen BK250.out 1
       have hfz15_2 := blk_frozen BK250.out 2
       go_wp2
       go_ret
       exact ⟨zb5, zb45⟩
      ·rw [if_neg c14] at H
       have c14b0 : decide (a0_2 ≤ a0_1) = false := decide_eq_false c14
       clear c14
       obtain rfl := Option.some.inj H
       have hcz16_0 : wc.cell? ⟨gb250, 0, none⟩ = some (.int .i64 a0_0) := (blk_cell BK250.out 0).trans rfl
       have hcz16_1 : wc.cell? ⟨gb250, 1, none⟩ = some (.int .i64 a0_1) := (blk_cell BK250.out 1).trans rfl
       have hcz16_2 : wc.cell? ⟨gb250, 2, none⟩ = some (.int .i64 a0_2) := (blk_cell BK250.out 2).trans rfl
       have hfz16_0 := blk_frozen BK250.out 0
       have hfz16_1 := blk_frozen BK250.out 1
       have hfz16_2 := blk_frozen BK250.out 2
       go_wp2
       go_ret
       exact ⟨zb5, zb45⟩
     ·rw [if_neg c13] at H
      have c13b0 : decide (1 ≤ a0_2) = false := decide_eq_false c13
      clear c13
      obtain rfl := Option.some.inj H
      have hcz17_0 : wc.cell? ⟨gb250, 0, none⟩ = some (.int .i64 a0_0) := (blk_cell BK250.out 0).trans rfl
      have hcz17_1 : wc.cell? ⟨gb250, 1, none⟩ = some (.int .i64 a0_1) := (blk_cell BK250.out 1).trans rfl
      have hcz17_2 : wc.cell? ⟨gb250, 2, none⟩ = some (.int .i64 a0_2) := (blk_cell BK250.out 2).trans rfl
      have hfz17_0 := blk_frozen BK250.out 0
      have hfz17_1 := blk_frozen BK250.out 1
      have hfz17_2 := blk_frozen BK250.out 2
      go_wp2
      go_ret
      exact ⟨zb5, zb45⟩
    ·rw [if_neg c12] at H
     have c12b0 : (a0_0 == 2) = false := beq_eq_false_iff_ne.mpr c12
     have c12b1 : (a0_0 != 2) = true := bne_iff_ne.mpr c12
     obtain rfl := Option.some.inj H
     have hcz18_0 : wc.cell? ⟨gb250, 0, none⟩ = some (.int .i64 a0_0) := (blk_cell BK250.out 0).trans rfl
     have hcz18_1 : wc.cell? ⟨gb250, 1, none⟩ = some (.int .i64 a0_1) := (blk_cell BK250.out 1).trans rfl
     have hcz18_2 : wc.cell? ⟨gb250, 2, none⟩ = some (.int .i64 a0_2) := (blk_cell BK250.out 2).trans rfl
     have hfz18_0 := blk_frozen BK250.out 0
     have hfz18_1 := blk_frozen BK250.out 1
     have hfz18_2 := blk_frozen BK250.out 2
     go_wp2
     go_ret
     exact ⟨zb5, zb45⟩

/-! ### spec_l05Time: function 72 -/
def spec_l05Time.f (a0 : Int) : Option (Bool) := if a0 ≥ 0 then (some (decide (a0 ≤ 1000))) else (some false)
set_option maxHeartbeats 8000000 in
set_option maxRecDepth 100000 in
theorem spec_l05Time.calls (a0 : Int) (r : Bool) (w : World) (h : spec_l05Time.f a0 = some r) :
  Calls Try.prog 72 #[.int .i64 a0] w fun e w' => e = .returned (.bool r) ∧ Drawn0 w w' := by
 have H : (if a0 ≥ 0 then (some (decide (a0 ≤ 1000))) else (some false)) = some r := h
 clear h
 by_cases c2 : a0 ≥ 0
 ·rw [if_pos c2] at H
  have c2b0 : decide (0 ≤ a0) = true := decide_eq_true c2
  clear c2
  obtain rfl := Option.some.inj H
  go_enter Try.func72, Try.ntmps72
  go_wp2
  go_ret
  exact ⟨zb1, zb2⟩
 ·rw [if_neg c2] at H
  have c2b0 : decide (0 ≤ a0) = false := decide_eq_false c2
  clear c2
  obtain rfl := Option.some.inj H
  go_enter Try.func72, Try.ntmps72
  go_wp2
  go_ret
  exact ⟨zb1, zb2⟩

/-! ### spec_l06Win: function 110 -/
def spec_l06Win.f (a0_0 : Int) (a0_1 : Int) : Option (Bool) := if a0_0 ≥ 0 then (if a0_0 < a0_1 then (some (decide (a0_1 ≤ 1100))) else (some false)) else (some false)
set_option maxHeartbeats 8000000 in
set_option maxRecDepth 100000 in
theorem spec_l06Win.calls (a0_0 : Int) (a0_1 : Int) (r : Bool) (w : World) (h : spec_l06Win.f a0_0 a0_1 = some r) :
  Calls Try.prog 110 #[.agg #[.int .i64 a0_0, .int .i64 a0_1]] w fun e w' => e = .returned (.bool r) ∧ Below w.heap.size w w' := by
 have hu105 := Try.underlying105
 have HB := Aside0.mk (Below.refl w.heap.size w)
 have H : (if a0_0 ≥ 0 then (if a0_0 < a0_1 then (some (decide (a0_1 ≤ 1100))) else (some false)) else (some false)) = some r := h
 clear h
 by_cases c2 : a0_0 ≥ 0
 ·rw [if_pos c2] at H
  have c2b0 : decide (0 ≤ a0_0) = true := decide_eq_true c2
  clear c2
  by_cases c3 : a0_0 < a0_1
  ·rw [if_pos c3] at H
   have c3b0 : decide (a0_0 < a0_1) = true := decide_eq_true c3
   clear c3
   obtain rfl := Option.some.inj H
   go_enter Try.func110, Try.ntmps110
   go_wp2_with (first | ((with_reducible refine gate_dst (N := 1) rfl ?_); refine box_event ?hg (N := 1) ?hd (cs := #[.int .i64 a0_0, .int .i64 a0_1]) (t := 105) ?hr ?_; (case hd => rfl); (case hg => rfl); (case hr => first | (go_simp; done) | (go_simp; rfl)); intro gb251 hg w4 hbox hb; have n0_ := Aside0.mk (below_step (zb3) hb); have n1_ := Aside0.mk (hbox); have n2_ := Aside0.mk ((by rw [hg]; exact (below_size (zb3)) : w.heap.size ≤ gb251)); have n3_ := Aside0.mk ((by rw [hg]; exact (below_size (zb3)) : w.heap.size ≤ gb251)); clear HB; have HB := n0_; have BK251 := n1_; have GW251 := n2_; have GE251 := n3_; clear n0_ n1_ n2_ n3_; clear hb hbox hg; have hcz5_0 : w4.cell? ⟨gb251, 0, none⟩ = some (.int .i64 a0_0) := (blk_cell BK251.out 0).trans rfl; have hcz5_1 : w4.cell? ⟨gb251, 1, none⟩ = some (.int .i64 a0_1) := (blk_cell BK251.out 1).trans rfl; have hfz5_0 := blk_frozen BK251.out 0; have hfz5_1 := blk_frozen BK251.out 1))
   go_ret
   exact ⟨zb5, zb46⟩
  ·rw [if_neg c3] at H
   have c3b0 : decide (a0_0 < a0_1) = false := decide_eq_false c3
   clear c3
   obtain rfl := Option.some.inj H
   go_enter Try.func110, Try.ntmps110
   go_wp2_with (first | ((with_reducible refine gate_dst (N := 1) rfl ?_); refine box_event ?hg (N := 1) ?hd (cs := #[.int .i64 a0_0, .int .i64 a0_1]) (t := 105) ?hr ?_; (case hd => rfl); (case hg => rfl); (case hr => first | (go_simp; done) | (go_simp; rfl)); intro gb251 hg w6 hbox hb; have n0_ := Aside0.mk (below_step (zb3) hb); have n1_ := Aside0.mk (hbox); have n2_ := Aside0.mk ((by rw [hg]; exact (below_size (zb3)) : w.heap.size ≤ gb251)); have n3_ := Aside0.mk ((by rw [hg]; exact (below_size (zb3)) : w.heap.size ≤ gb251)); clear HB; have HB := n0_; have BK251 := n1_; have GW251 := n2_; have GE251 := n3_; clear n0_ n1_ n2_ n3_; clear hb hbox hg; have hcz7_0 : w6.cell? ⟨gb251, 0, none⟩ = some (.int .i64 a0_0) := (blk_cell BK251.out 0).trans rfl; have hcz7_1 : w6.cell? ⟨gb251, 1, none⟩ = some (.int .i64 a0_1) := (blk_cell BK251.out 1).trans rfl; have hfz7_0 := blk_frozen BK251.out 0; have hfz7_1 := blk_frozen BK251.out 1))
   go_ret
   exact ⟨zb5, zb46⟩
 ·rw [if_neg c2] at H
  have c2b0 : decide (0 ≤ a0_0) = false := decide_eq_false c2
  clear c2
  obtain rfl := Option.some.inj H
  go_enter Try.func110, Try.ntmps110
  go_wp2_with (first | ((with_reducible refine gate_dst (N := 1) rfl ?_); refine box_event ?hg (N := 1) ?hd (cs := #[.int .i64 a0_0, .int .i64 a0_1]) (t := 105) ?hr ?_; (case hd => rfl); (case hg => rfl); (case hr => first | (go_simp; done) | (go_simp; rfl)); intro gb251 hg w8 hbox hb; have n0_ := Aside0.mk (below_step (zb3) hb); have n1_ := Aside0.mk (hbox); have n2_ := Aside0.mk ((by rw [hg]; exact (below_size (zb3)) : w.heap.size ≤ gb251)); have n3_ := Aside0.mk ((by rw [hg]; exact (below_size (zb3)) : w.heap.size ≤ gb251)); clear HB; have HB := n0_; have BK251 := n1_; have GW251 := n2_; have GE251 := n3_; clear n0_ n1_ n2_ n3_; clear hb hbox hg; have hcz9_0 : w8.cell? ⟨gb251, 0, none⟩ = some (.int .i64 a0_0) := (blk_cell BK251.out 0).trans rfl; have hcz9_1 : w8.cell? ⟨gb251, 1, none⟩ = some (.int .i64 a0_1) := (blk_cell BK251.out 1).trans rfl; have hfz9_0 := blk_frozen BK251.out 0; have hfz9_1 := blk_frozen BK251.out 1))
  go_ret
  exact ⟨zb5, zb46⟩

end Go.Proofs.Ytkikbhcicpkhgaa.PFnSessions
