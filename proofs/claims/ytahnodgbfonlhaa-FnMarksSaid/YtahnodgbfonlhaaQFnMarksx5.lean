/- Contracts of the functions that the law FnMarks reaches, part 5: each says that the call returns what the Lean function of the same name computes. Made by a program of this session. -/
import Derived.Test.YtahnodgbfonlhaaQFnMarksx0
import Derived.Test.YtahnodgbfonlhaaQFnMarksx1
import Derived.Test.YtahnodgbfonlhaaQFnMarksx4
namespace Go.Proofs.Ytahnodgbfonlhaa.PFnMarks
open Go.RowKit Go.Proofs.YtahnodgbfonlhaaW.PrintWords Go.Proofs.YtahnodgbfonlhaaW.PrintLast Go.Proofs.YtahnodgbfonlhaaW.PrintMore
attribute [local go_sem] max2_int min2_int max_two min_two max_three min_three max_four min_four   -- for this text's walks alone
set_option linter.unusedVariables false
set_option linter.unusedSimpArgs false

/-! ### spec_l01Cur_marks: function 84 -/
mutual
def spec_l01Cur_marks.l0 : Nat → Int → List Int → Int → Int → Int → List (S63) → Option (Int × (List (S63)) × Int × Int)
 | 0, _, _, _, _, _, _ => none
 | k + 1, x4, x1000, x1001, x1002, x180000, x180001 => if x4 > 0 then ((spec_l01Cur_pick.f x1000 x1001 x1002 (x180001.length : Int)).bind fun bt183 => ((spec_l01Cur_pick.f x1000 bt183.2.1 bt183.2.2 40).bind fun bt186 => ((spec_MarkSet.f k x180000 x180001 bt183.1 bt186.1).bind fun bt189 => ((spec_l01Cur_once.f x1000 bt186.2.1 bt186.2.2 4).bind fun bt195 => (if bt195.1 = true then ((spec_l01Cur_once.f x1000 bt195.2.1 bt195.2.2 2).bind fun bt198 => ((spec_MarkIdle.f k x180000 x180001 bt183.1 bt198.1).bind fun bt201 => (spec_l01Cur_marks.j1 k x4 bt201.2.2 x1000 bt198.2.1 bt198.2.2 x180000 x180001 bt201.1 bt201.2.1))) else (spec_l01Cur_marks.j1 k x4 bt189.2.2 x1000 bt195.2.1 bt195.2.2 x180000 x180001 bt189.1 bt189.2.1)))))) else (some (x180000, x180001, x1001, x1002))
def spec_l01Cur_marks.j1 : Nat → Int → Int → List Int → Int → Int → Int → List (S63) → Int → List (S63) → Option (Int × (List (S63)) × Int × Int)
 | 0, _, _, _, _, _, _, _, _, _ => none
 | k + 1, x4, x7, x1000, x1001, x1002, x180000, x180001, x195000, x195001 => if x7 = 0 then (spec_l01Cur_marks.l0 k (wrap64 (x4 - 1)) x1000 x1001 x1002 x195000 x195001) else (spec_l01Cur_marks.l0 k (wrap64 (x4 - 1)) x1000 x1001 x1002 x180000 x180001)
end
def spec_l01Cur_marks.f (k : Nat) (s0_0 : List Int) (s0_1 : Int) (s0_2 : Int) : Option (Int × (List (S63)) × Int × Int) := (spec_l01Cur_pick.f s0_0 s0_1 s0_2 4).bind fun bt172 => ((spec_MarksNew.f (wrap64 (1 + bt172.1))).bind fun bt175 => ((spec_l01Cur_size.f s0_0 bt172.2.1 bt172.2.2 12).bind fun bt180 => (spec_l01Cur_marks.l0 k bt180.1 s0_0 bt180.2.1 bt180.2.2 bt175.1 bt175.2)))
theorem spec_l01Cur_marks.mono_l : ∀ k, (∀ y0 y1 y2 y3 y4 y5, LeO (spec_l01Cur_marks.l0 k y0 y1 y2 y3 y4 y5) (spec_l01Cur_marks.l0 (k + 1) y0 y1 y2 y3 y4 y5)) ∧ (∀ y0 y1 y2 y3 y4 y5 y6 y7 y8, LeO (spec_l01Cur_marks.j1 k y0 y1 y2 y3 y4 y5 y6 y7 y8) (spec_l01Cur_marks.j1 (k + 1) y0 y1 y2 y3 y4 y5 y6 y7 y8))
 | 0 => ⟨fun _ _ _ _ _ _ r h => by simp [spec_l01Cur_marks.l0] at h, fun _ _ _ _ _ _ _ _ _ r h => by simp [spec_l01Cur_marks.j1] at h⟩
 | k + 1 => by
  obtain ⟨ih0, ih1⟩ := spec_l01Cur_marks.mono_l k
  refine ⟨?_, ?_⟩
  ·intro y0 y1 y2 y3 y4 y5
   unfold spec_l01Cur_marks.l0
   repeat' first
   | (with_reducible exact ih0 _ _ _ _ _ _)
   | (with_reducible exact ih1 _ _ _ _ _ _ _ _ _)
   | (with_reducible exact spec_MarkIdle.mono _ _ _ _ _)
   | (with_reducible exact spec_MarkSet.mono _ _ _ _ _)
   | (with_reducible exact LeO.refl _)
   | (with_reducible exact LeO.none _)
   | (with_reducible refine LeO.ite ?_ ?_)
   | (with_reducible refine LeO.bind ?_ (fun _ => ?_))
   | exact ih0 _ _ _ _ _ _
   | exact ih1 _ _ _ _ _ _ _ _ _
   | exact spec_MarkIdle.mono _ _ _ _ _
   | exact spec_MarkSet.mono _ _ _ _ _
   | exact LeO.none _
   | refine LeO.ite ?_ ?_
   | refine LeO.bind ?_ (fun _ => ?_)
  ·intro y0 y1 y2 y3 y4 y5 y6 y7 y8
   unfold spec_l01Cur_marks.j1
   repeat' first
   | (with_reducible exact ih0 _ _ _ _ _ _)
   | (with_reducible exact ih1 _ _ _ _ _ _ _ _ _)
   | (with_reducible exact spec_MarkIdle.mono _ _ _ _ _)
   | (with_reducible exact spec_MarkSet.mono _ _ _ _ _)
   | (with_reducible exact LeO.refl _)
   | (with_reducible exact LeO.none _)
   | (with_reducible refine LeO.ite ?_ ?_)
   | (with_reducible refine LeO.bind ?_ (fun _ => ?_))
   | exact ih0 _ _ _ _ _ _
   | exact ih1 _ _ _ _ _ _ _ _ _
   | exact spec_MarkIdle.mono _ _ _ _ _
   | exact spec_MarkSet.mono _ _ _ _ _
   | exact LeO.none _
   | refine LeO.ite ?_ ?_
   | refine LeO.bind ?_ (fun _ => ?_)
theorem spec_l01Cur_marks.mono : ∀ a0 a1 a2 k, LeO (spec_l01Cur_marks.f k a0 a1 a2) (spec_l01Cur_marks.f (k + 1) a0 a1 a2) := by
 intro a0 a1 a2 k
 obtain ⟨ih0, ih1⟩ := spec_l01Cur_marks.mono_l k
 unfold spec_l01Cur_marks.f
 repeat' first
   | (with_reducible exact ih0 _ _ _ _ _ _)
   | (with_reducible exact ih1 _ _ _ _ _ _ _ _ _)
   | (with_reducible exact spec_MarkIdle.mono _ _ _ _ _)
   | (with_reducible exact spec_MarkSet.mono _ _ _ _ _)
   | (with_reducible exact LeO.refl _)
   | (with_reducible exact LeO.none _)
   | (with_reducible refine LeO.ite ?_ ?_)
   | (with_reducible refine LeO.bind ?_ (fun _ => ?_))
   | exact ih0 _ _ _ _ _ _
   | exact ih1 _ _ _ _ _ _ _ _ _
   | exact spec_MarkIdle.mono _ _ _ _ _
   | exact spec_MarkSet.mono _ _ _ _ _
   | exact LeO.none _
   | refine LeO.ite ?_ ?_
   | refine LeO.bind ?_ (fun _ => ?_)
def spec_l01Cur_marks.T6 : Bool × List (List Nat × List Nat) := (true, [([], []), ([], []), ([], []), ([2], [2]), ([0, 1, 3, 3], [0, 1, 3]), ([4], [4]), ([5], [5]), ([5], [5]), ([], []), ([8, 6, 4, 0, 1, 2, 3, 4, 5, 6, 8], [6, 8]), ([7, 9, 0, 1, 2, 3, 4, 5, 6, 7, 8, 9], [7])])
def spec_l01Cur_marks.B6 : List Nat := [0, 0, 0, 4, 15, 31, 63, 63, 0, 383, 1023]
theorem spec_l01Cur_marks.tab6 : rtab .any (opsOf Try.f84 6) = spec_l01Cur_marks.T6 := by kernel_rfl
theorem spec_l01Cur_marks.bits6 : waitsOk spec_l01Cur_marks.T6.2 spec_l01Cur_marks.B6 = true := by kernel_rfl
def spec_l01Cur_marks.T8 : Bool × List (List Nat × List Nat) := (true, [([], []), ([], []), ([], []), ([2], [2]), ([0, 1, 3, 3], [0, 1, 3]), ([4], [4]), ([5], [5]), ([5], [5]), ([6, 4, 0, 1, 2, 3, 4, 5, 6], [6]), ([7, 8, 0, 1, 2, 3, 4, 5, 6, 7, 8], [7])])
def spec_l01Cur_marks.B8 : List Nat := [0, 0, 0, 4, 15, 31, 63, 63, 127, 511]
theorem spec_l01Cur_marks.tab8 : rtab .any (opsOf Try.f84 8) = spec_l01Cur_marks.T8 := by kernel_rfl
theorem spec_l01Cur_marks.bits8 : waitsOk spec_l01Cur_marks.T8.2 spec_l01Cur_marks.B8 = true := by kernel_rfl
set_option maxHeartbeats 8000000 in
set_option maxRecDepth 100000 in
theorem spec_l01Cur_marks.calls (k : Nat) (g : Nat) (s0_0 : List Int) (s0_1 : Int) (s0_2 : Int) (r1 : Int) (r2 : List (S63)) (r3 : Int) (r4 : Int) (w0 w : World) (hI : IsS102 w0 w g s0_0 s0_1 s0_2) (hB : Below w0.heap.size w0 w) (h : spec_l01Cur_marks.f k s0_0 s0_1 s0_2 = some (r1, r2, r3, r4)) :
  Calls Try.prog 84 #[.pointer (some ⟨g, 0, none⟩)] w fun e w' => ∃ v1_ : Value, e = .returned (.agg #[.int .i64 r1, v1_]) ∧ Kd.R k63 63 w' w.heap.size (fun _ => True) v1_ r2 ∧ IsS102 w0 w' g s0_0 r3 r4 ∧ Below w0.heap.size w0 w' ∧ KeepBut w w' g none := by
 have hu53 := Try.underlying53
 have HI0 := Aside0.mk hI
 have HK := Aside0.mk (KeepBut.refl w g none)
 have HL := Aside0.mk hB.size
 clear hI
 have HW0 := Aside0.mk hB.size
 have HB := Aside0.mk hB
 clear hB
 have H : ((spec_l01Cur_pick.f s0_0 s0_1 s0_2 4).bind fun bt172 => ((spec_MarksNew.f (wrap64 (1 + bt172.1))).bind fun bt175 => ((spec_l01Cur_size.f s0_0 bt172.2.1 bt172.2.2 12).bind fun bt180 => (spec_l01Cur_marks.l0 k bt180.1 s0_0 bt180.2.1 bt180.2.2 bt175.1 bt175.2)))) = some (r1, r2, r3, r4) := h
 clear h
 replace H := Option.bind_eq_some_iff.mp H
 obtain ⟨⟨t172, t173, t174⟩, A20, H⟩ := H
 replace H : ((spec_MarksNew.f (wrap64 (1 + t172))).bind fun bt175 => ((spec_l01Cur_size.f s0_0 t173 t174 12).bind fun bt180 => (spec_l01Cur_marks.l0 k bt180.1 s0_0 bt180.2.1 bt180.2.2 bt175.1 bt175.2))) = some (r1, r2, r3, r4) := H
 have A2 := Aside0.mk A20
 clear A20
 replace H := Option.bind_eq_some_iff.mp H
 obtain ⟨⟨t175, t176⟩, A30, H⟩ := H
 replace H : ((spec_l01Cur_size.f s0_0 t173 t174 12).bind fun bt180 => (spec_l01Cur_marks.l0 k bt180.1 s0_0 bt180.2.1 bt180.2.2 t175 t176)) = some (r1, r2, r3, r4) := H
 have A3 := Aside0.mk A30
 clear A30
 replace H := Option.bind_eq_some_iff.mp H
 obtain ⟨⟨t180, t181, t182⟩, A40, H⟩ := H
 replace H : (spec_l01Cur_marks.l0 k t180 s0_0 t181 t182 t175 t176) = some (r1, r2, r3, r4) := H
 have A4 := Aside0.mk A40
 clear A40
 have H' := Aside0.mk H
 clear H
 go_enter Try.func84, Try.ntmps84
 go_wp2_with (first | ((with_reducible refine gate_dst (N := 2) rfl ?_); refine box_event ?hg (N := 2) ?hd (cs := #[.int .i64 0, .slice none 0 0]) (t := 53) ?hr ?_; (case hd => rfl); (case hg => rfl); (case hr => first | (go_simp; done) | (go_simp; rfl)); intro gb171 hg w5 hbox hb; have n0_ := Aside0.mk (IsS102.below (zb6) hb); have n1_ := Aside0.mk (KeepBut.trans (zb8) (KeepBut.of_below hb g none) (.inl rfl)); have n2_ := Aside0.mk (below_step (zb7) hb); have n3_ := Aside0.mk (hbox); have n4_ := Aside0.mk ((by rw [hg]; exact (keep_size (w := w) (g := g) (row := none) (zb8)) : w.heap.size ≤ gb171)); have n5_ := Aside0.mk ((Nat.le_trans HW0.out (by rw [hg]; exact (keep_size (w := w) (g := g) (row := none) (zb8)) : w.heap.size ≤ gb171) : w0.heap.size ≤ gb171)); have n6_ := Aside0.mk ((by rw [hg]; exact Nat.ne_of_lt (IsS102.lt (show IsS102 w0 _ g s0_0 s0_1 s0_2 from zb6)) : g ≠ gb171)); have n7_ := Aside0.mk ((by rw [hg]; exact Nat.ne_of_gt (IsS102.lt (show IsS102 w0 _ g s0_0 s0_1 s0_2 from zb6)) : gb171 ≠ g)); clear HI0; clear HK; clear HB; have HI0 := n0_; have HK := n1_; have HB := n2_; have BK171 := n3_; have GW171 := n4_; have GE171 := n5_; have NB0_171 := n6_; have NB171_0 := n7_; clear n0_ n1_ n2_ n3_ n4_ n5_ n6_ n7_; clear hb hbox hg) | ((with_reducible refine gate_callee (f := 67) rfl ?_); refine goesL_ (some 9) rfl rfl Try.func67 (by kernel_rfl) rfl #[.pointer (some ⟨g, 0, none⟩), .int .i64 4] rfl (zb10) ?_; (with_reducible refine (spec_l01Cur_pick.calls g s0_0 s0_1 s0_2 4 t172 t173 t174 w0 _ ?side1 ?side2 A2.out).mono ?_); (case side1 => repeat (first | (with_reducible first | exact HI0.out | apply IsS102.alloc | apply IsS102.drewN | apply IsS102.drew | apply IsS102.set_1 | apply IsS102.set_2 | refine IsS102.far ?_ NB0_171.out _) | exact HI0.out)); (case side2 => repeat (first | (with_reducible first | exact HB.out | apply below_alloc | apply pw_below_drewN | apply below_drew1 | refine below_set ?_ (IsS102.ge HI0.out) | refine below_set ?_ GE171.out) | exact HB.out)); rintro e w6 ⟨rfl, hi, hb, hk⟩; refine ⟨_, rfl, ?_⟩; have n0_ := Aside0.mk (KeepBut.blk hk (g' := gb171) (o := .cells #[.int .i64 0, .slice none 0 0] 53 (0, 0)) (zb51) NB171_0.out (by simp)); have n1_ := Aside0.mk (KeepBut.trans (zb52) hk (.inl rfl)); have n2_ := Aside0.mk (hb); have n3_ := Aside0.mk (hi); clear BK171; clear HK; clear HB; clear HI0; have BK171 := n0_; have HK := n1_; have HB := n2_; have HI0 := n3_; clear n0_ n1_ n2_ n3_; (try clear hb); (try clear hb2); (try clear hk); (try clear hi)) | ((with_reducible refine gate_callee (f := 94) rfl ?_); refine goesL_ (some 11) rfl rfl Try.func94 (by kernel_rfl) rfl #[.int .i64 (wrap64 (1 + t172))] rfl (zb10) ?_; (with_reducible refine (spec_MarksNew.calls (wrap64 (1 + t172)) t175 t176 _ A3.out).mono ?_); rintro e w7 ⟨v177, rfl, ho0, hb⟩; refine ⟨_, rfl, ?_⟩; have n0_ := Aside0.mk (Kd.R_lower ho0 (keep_size (w := w) (g := g) (row := none) (zb52))); have n1_ := Aside0.mk (IsS102.below (zb53) hb); have n2_ := Aside0.mk (blk_below (g := gb171) (o := .cells #[.int .i64 0, .slice none 0 0] 53 (0, 0)) (zb51) hb); have n3_ := Aside0.mk (KeepBut.trans (zb52) (KeepBut.of_below hb g none) (.inl rfl)); have n4_ := Aside0.mk (below_step (zb54) hb); clear HI0; clear BK171; clear HK; clear HB; have HO178 := n0_; have HI0 := n1_; have BK171 := n2_; have HK := n3_; have HB := n4_; clear n0_ n1_ n2_ n3_ n4_; (try clear hb); (try clear hb2); (try clear hk); (try clear hi); (try clear ho0)) | ((with_reducible refine gate_dst (N := 3) rfl ?_); refine box_event ?hg (N := 3) ?hd (cs := #[.int .i64 0, .slice none 0 0]) (t := 53) ?hr ?_; (case hd => rfl); (case hg => rfl); (case hr => first | (go_simp; done) | (go_simp; rfl)); intro gb179 hg w8 hbox hb; have n0_ := Aside0.mk (Kd.R_below (by (with_reducible repeat (first | apply Kd.R_alloc | apply Kd.R_drewN | apply Kd.R_drew)); exact HO178.out) hb); have n1_ := Aside0.mk (IsS102.below (zb53) hb); have n2_ := Aside0.mk (blk_below (g := gb171) (o := .cells #[.int .i64 0, .slice none 0 0] 53 (0, 0)) (zb51) hb); have n3_ := Aside0.mk (KeepBut.trans (zb52) (KeepBut.of_below hb g none) (.inl rfl)); have n4_ := Aside0.mk (below_step (zb54) hb); have n5_ := Aside0.mk (hbox); have n6_ := Aside0.mk ((by rw [hg]; exact (keep_size (w := w) (g := g) (row := none) (zb52)) : w.heap.size ≤ gb179)); have n7_ := Aside0.mk ((Nat.le_trans HW0.out (by rw [hg]; exact (keep_size (w := w) (g := g) (row := none) (zb52)) : w.heap.size ≤ gb179) : w0.heap.size ≤ gb179)); have n8_ := Aside0.mk ((by rw [hg]; exact Nat.ne_of_lt (blk_lt (g := gb171) (o := .cells #[.int .i64 0, .slice none 0 0] 53 (0, 0)) (zb51)) : gb171 ≠ gb179)); have n9_ := Aside0.mk ((by rw [hg]; exact Nat.ne_of_gt (blk_lt (g := gb171) (o := .cells #[.int .i64 0, .slice none 0 0] 53 (0, 0)) (zb51)) : gb179 ≠ gb171)); have n10_ := Aside0.mk ((by rw [hg]; exact Nat.ne_of_lt (IsS102.lt (show IsS102 w0 _ g s0_0 t173 t174 from zb53)) : g ≠ gb179)); have n11_ := Aside0.mk ((by rw [hg]; exact Nat.ne_of_gt (IsS102.lt (show IsS102 w0 _ g s0_0 t173 t174 from zb53)) : gb179 ≠ g)); clear HO178; clear HI0; clear BK171; clear HK; clear HB; have HO178 := n0_; have HI0 := n1_; have BK171 := n2_; have HK := n3_; have HB := n4_; have BK179 := n5_; have GW179 := n6_; have GE179 := n7_; have NB171_179 := n8_; have NB179_171 := n9_; have NB0_179 := n10_; have NB179_0 := n11_; clear n0_ n1_ n2_ n3_ n4_ n5_ n6_ n7_ n8_ n9_ n10_ n11_; clear hb hbox hg; have hnb9 := NB179_171.out; have hnc9 := NB171_179.out; have hnb10 := NB179_0.out; have hnc10 := NB0_179.out; have hcz11_0 : w8.cell? ⟨gb179, 0, none⟩ = some (.int .i64 0) := (blk_cell BK179.out 0).trans rfl; have hcz11_1 : w8.cell? ⟨gb179, 1, none⟩ = some (.slice none 0 0) := (blk_cell BK179.out 1).trans rfl; have hfz11_0 := blk_frozen BK179.out 0; have hfz11_1 := blk_frozen BK179.out 1; obtain ⟨Ao12, co12, eo12⟩ := Kd.R_slice HO178.out; subst eo12) | ((with_reducible refine gate_callee (f := 81) rfl ?_); refine goesL_ (some 13) rfl rfl Try.func81 (by kernel_rfl) rfl #[.pointer (some ⟨g, 0, none⟩), .int .i64 12] rfl (zb10) ?_; (with_reducible refine (spec_l01Cur_size.calls g s0_0 t173 t174 12 t180 t181 t182 w0 _ ?side1 ?side2 A4.out).mono ?_); (case side1 => exact zb55); (case side2 => exact zb56); rintro e w13 ⟨rfl, hi, hb, hk⟩; refine ⟨_, rfl, ?_⟩; have n0_ := Aside0.mk (KeepBut.blk hk (g' := gb171) (o := .cells #[.int .i64 0, .slice none 0 0] 53 (0, 0)) (zb57) NB171_0.out (by simp)); have n1_ := Aside0.mk (Kd.R_mono (Kd.R_keep (IsS102.apart (show IsS102 w0 _ g s0_0 t173 t174 from zb58) (by (with_reducible repeat (first | apply Kd.R_alloc | apply Kd.R_drewN | apply Kd.R_drew)); exact (Kd.R_mono (Kd.R_far (p := ⟨gb179, 1, none⟩) (Kd.R_far (p := ⟨gb179, 0, none⟩) (Kd.R_types HO178.out BK179.out (by decide)) (fun _ hk => hk.2) (.int .i64 t175)) (fun _ hk => hk.2) (.slice Ao12 t176.length co12)) (fun _ h_ => h_.1))) (by decide)) hk (fun _ h => h.2)) (fun _ h => h.1)); have n2_ := Aside0.mk (KeepBut.blk hk (g' := gb179) (o := .cells #[.int .i64 t175, .slice Ao12 t176.length co12] 53 (0, 0)) (by (with_reducible repeat (first | refine blk_drewN ?_ _ | refine blk_drew ?_ | refine blk_alloc ?_ _)); refine blk_put (cs := #[.int .i64 t175, .slice none 0 0]) ?_ 1 _ rfl; (with_reducible repeat (first | refine blk_drewN ?_ _ | refine blk_drew ?_ | refine blk_alloc ?_ _)); refine blk_put (cs := #[.int .i64 0, .slice none 0 0]) ?_ 0 _ rfl; (with_reducible repeat (first | refine blk_drewN ?_ _ | refine blk_drew ?_ | refine blk_alloc ?_ _)); exact BK179.out) NB179_0.out (by simp)); have n3_ := Aside0.mk (KeepBut.trans (zb59) hk (.inl rfl)); have n4_ := Aside0.mk (hb); have n5_ := Aside0.mk (hi); clear BK171; clear HO178; clear BK179; clear HK; clear HB; clear HI0; have BK171 := n0_; have HO178 := n1_; have BK179 := n2_; have HK := n3_; have HB := n4_; have HI0 := n5_; clear n0_ n1_ n2_ n3_ n4_ n5_; (try clear hb); (try clear hb2); (try clear hk); (try clear hi)))
 go_loopg [4] k (fun kq v4 w' => ∃ (x4_1 : Int) (x1001_1 : Int) (x1002_1 : Int) (x180000_1 : Int) (x180001_1 : List (S63)) (u180001 : Value), v4 = .int .i64 x4_1 ∧ Aside0 (spec_l01Cur_marks.l0 kq x4_1 s0_0 x1001_1 x1002_1 x180000_1 x180001_1 = some (r1, r2, r3, r4)) ∧ Aside0 (kq ≤ k) ∧ Aside0 (Kd.R k63 63 w' w.heap.size (fun _ => True) u180001 x180001_1) ∧ Aside0 (w'.heap[gb171]? = some (.cells #[.int .i64 0, (.slice none 0 0)] 53 (0, 0))) ∧ Aside0 (w'.heap[gb179]? = some (.cells #[.int .i64 x180000_1, u180001] 53 (0, 0))) ∧ Aside0 (IsS102 w0 w' g s0_0 x1001_1 x1002_1) ∧ Aside0 (KeepBut w w' g none) ∧ Aside0 (Below w0.heap.size w0 w'))
 case atStart => exact ⟨(t180), (t181), (t182), (t175), (t176), (.slice Ao12 t176.length co12), (zb1), H', ⟨Nat.le_refl _⟩, ⟨by (with_reducible repeat (first | apply Kd.R_alloc | apply Kd.R_drewN | apply Kd.R_drew)); exact HO178.out⟩, ⟨zb51⟩, ⟨zb60⟩, ⟨zb58⟩, ⟨zb59⟩, ⟨zb61⟩⟩
 case round =>
  clear H'
  try clear c1
  try clear p2
  try clear c6
  try clear p6
  try clear c8
  try clear c9
  try clear c10
  try clear hcz11_0
  try clear hcz11_1
  try clear hfz11_0
  try clear hfz11_1
  obtain ⟨x4_1, x1001_1, x1002_1, x180000_1, x180001_1, u180001, rfl, HA, HK1, HO_180001, BK171, BK179, HI0, HK, HB⟩ := hrel
  cases gk with
  | zero => exact absurd HA.out (by simp [spec_l01Cur_marks.l0])
  | succ k1 =>
   have H := HA.out
   clear HA
   simp only [spec_l01Cur_marks.l0] at H
   by_cases c14 : x4_1 > 0
   ·rw [if_pos c14] at H
    have c14b0 : decide (0 < x4_1) = true := decide_eq_true c14
    clear c14
    replace H := Option.bind_eq_some_iff.mp H
    obtain ⟨⟨t183, t184, t185⟩, A150, H⟩ := H
    replace H : ((spec_l01Cur_pick.f s0_0 t184 t185 40).bind fun bt186 => ((spec_MarkSet.f k1 x180000_1 x180001_1 t183 bt186.1).bind fun bt189 => ((spec_l01Cur_once.f s0_0 bt186.2.1 bt186.2.2 4).bind fun bt195 => (if bt195.1 = true then ((spec_l01Cur_once.f s0_0 bt195.2.1 bt195.2.2 2).bind fun bt198 => ((spec_MarkIdle.f k1 x180000_1 x180001_1 t183 bt198.1).bind fun bt201 => (spec_l01Cur_marks.j1 k1 x4_1 bt201.2.2 s0_0 bt198.2.1 bt198.2.2 x180000_1 x180001_1 bt201.1 bt201.2.1))) else (spec_l01Cur_marks.j1 k1 x4_1 bt189.2.2 s0_0 bt195.2.1 bt195.2.2 x180000_1 x180001_1 bt189.1 bt189.2.1))))) = some (r1, r2, r3, r4) := H
    have A15 := Aside0.mk A150
    clear A150
    replace H := Option.bind_eq_some_iff.mp H
    obtain ⟨⟨t186, t187, t188⟩, A160, H⟩ := H
    replace H : ((spec_MarkSet.f k1 x180000_1 x180001_1 t183 t186).bind fun bt189 => ((spec_l01Cur_once.f s0_0 t187 t188 4).bind fun bt195 => (if bt195.1 = true then ((spec_l01Cur_once.f s0_0 bt195.2.1 bt195.2.2 2).bind fun bt198 => ((spec_MarkIdle.f k1 x180000_1 x180001_1 t183 bt198.1).bind fun bt201 => (spec_l01Cur_marks.j1 k1 x4_1 bt201.2.2 s0_0 bt198.2.1 bt198.2.2 x180000_1 x180001_1 bt201.1 bt201.2.1))) else (spec_l01Cur_marks.j1 k1 x4_1 bt189.2.2 s0_0 bt195.2.1 bt195.2.2 x180000_1 x180001_1 bt189.1 bt189.2.1)))) = some (r1, r2, r3, r4) := H
    have A16 := Aside0.mk A160
    clear A160
    replace H := Option.bind_eq_some_iff.mp H
    obtain ⟨⟨t189, t190, t193⟩, A170, H⟩ := H
    replace H : ((spec_l01Cur_once.f s0_0 t187 t188 4).bind fun bt195 => (if bt195.1 = true then ((spec_l01Cur_once.f s0_0 bt195.2.1 bt195.2.2 2).bind fun bt198 => ((spec_MarkIdle.f k1 x180000_1 x180001_1 t183 bt198.1).bind fun bt201 => (spec_l01Cur_marks.j1 k1 x4_1 bt201.2.2 s0_0 bt198.2.1 bt198.2.2 x180000_1 x180001_1 bt201.1 bt201.2.1))) else (spec_l01Cur_marks.j1 k1 x4_1 t193 s0_0 bt195.2.1 bt195.2.2 x180000_1 x180001_1 t189 t190))) = some (r1, r2, r3, r4) := H
    have A17 := Aside0.mk A170
    clear A170
    replace H := Option.bind_eq_some_iff.mp H
    obtain ⟨⟨t195, t196, t197⟩, A180, H⟩ := H
    replace H : (if t195 = true then ((spec_l01Cur_once.f s0_0 t196 t197 2).bind fun bt198 => ((spec_MarkIdle.f k1 x180000_1 x180001_1 t183 bt198.1).bind fun bt201 => (spec_l01Cur_marks.j1 k1 x4_1 bt201.2.2 s0_0 bt198.2.1 bt198.2.2 x180000_1 x180001_1 bt201.1 bt201.2.1))) else (spec_l01Cur_marks.j1 k1 x4_1 t193 s0_0 t196 t197 x180000_1 x180001_1 t189 t190)) = some (r1, r2, r3, r4) := H
    have A18 := Aside0.mk A180
    clear A180
    have HC19 := Aside0.mk H
    clear H
    have hnb20 := NB179_171.out
    have hnc20 := NB171_179.out
    have hnb21 := NB179_0.out
    have hnc21 := NB0_179.out
    have hcz22_0 : wr.cell? ⟨gb179, 0, none⟩ = some (.int .i64 x180000_1) := (blk_cell BK179.out 0).trans rfl
    have hcz22_1 : wr.cell? ⟨gb179, 1, none⟩ = some (u180001) := (blk_cell BK179.out 1).trans rfl
    have hfz22_0 := blk_frozen BK179.out 0
    have hfz22_1 := blk_frozen BK179.out 1
    obtain ⟨Ao23, co23, eo23⟩ := Kd.R_slice HO_180001.out
    subst eo23
    try go_wp2_with (first | ((with_reducible refine gate_callee (f := 67) rfl ?_); refine goesL_ (some 22) rfl rfl Try.func67 (by kernel_rfl) rfl #[.pointer (some ⟨g, 0, none⟩), .int .i64 (x180001_1.length : Int)] rfl (zb10) ?_; (with_reducible refine (spec_l01Cur_pick.calls g s0_0 x1001_1 x1002_1 (x180001_1.length : Int) t183 t184 t185 w0 _ ?side1 ?side2 A15.out).mono ?_); (case side1 => exact zb55); (case side2 => exact zb56); rintro e w24 ⟨rfl, hi, hb, hk⟩; refine ⟨_, rfl, ?_⟩; have n0_ := Aside0.mk (Kd.R_mono (Kd.R_keep (IsS102.apart (show IsS102 w0 _ g s0_0 x1001_1 x1002_1 from zb58) (zb62) (by decide)) hk (fun _ h => h.2)) (fun _ h => h.1)); have n1_ := Aside0.mk (KeepBut.blk hk (g' := gb171) (o := .cells #[.int .i64 0, .slice none 0 0] 53 (0, 0)) (zb51) NB171_0.out (by simp)); have n2_ := Aside0.mk (KeepBut.blk hk (g' := gb179) (o := .cells #[.int .i64 x180000_1, .slice Ao23 x180001_1.length co23] 53 (0, 0)) (zb60) NB179_0.out (by simp)); have n3_ := Aside0.mk (KeepBut.trans (zb59) hk (.inl rfl)); have n4_ := Aside0.mk (hb); have n5_ := Aside0.mk (hi); clear HO_180001; clear BK171; clear BK179; clear HK; clear HB; clear HI0; have HO_180001 := n0_; have BK171 := n1_; have BK179 := n2_; have HK := n3_; have HB := n4_; have HI0 := n5_; clear n0_ n1_ n2_ n3_ n4_ n5_; (try clear hb); (try clear hb2); (try clear hk); (try clear hi)))
    have n0_ := Aside0.mk (Kd.R_drew HO_180001.out)
    have n1_ := Aside0.mk (blk_drew BK171.out)
    have n2_ := Aside0.mk (blk_drew BK179.out)
    have n3_ := Aside0.mk (IsS102.drew HI0.out)
    have n4_ := Aside0.mk (keep_drew HK.out)
    have n5_ := Aside0.mk (below_drew1 HB.out)
    clear HO_180001
    clear BK171
    clear BK179
    clear HI0
    clear HK
    clear HB
    have HO_180001 := n0_
    have BK171 := n1_
    have BK179 := n2_
    have HI0 := n3_
    have HK := n4_
    have HB := n5_
    clear n0_ n1_ n2_ n3_ n4_ n5_
    refine start_ (n := 11) (S := fun w' => w'.cell? ⟨gb179, 0, none⟩ = some (.int .i64 x180000_1) ∧ w'.cell? ⟨gb179, 1, none⟩ = some (.slice Ao23 x180001_1.length co23)) (ds := []) #[false, false, false, false, false, false, false, false, false, false, false] (by kernel_rfl) rfl rfl ⟨(blk_cell BK179.out 0).trans rfl, (blk_cell BK179.out 1).trans rfl⟩ (fun hHeld => ?_); refine with_tabW spec_l01Cur_marks.tab6 spec_l01Cur_marks.bits6 (fun HT_ HW_ => ?_)
    generalize w24.drew = w25 at HO_180001 BK171 BK179 HI0 HK HB hHeld ⊢
    refine pz 1 25 (bz 11 2) rfl rfl ?_
    refine pz 2 26 (bz 11 6) rfl rfl ?_
    refine tz 0 24 (bz 11 7) rfl rfl (Or.inl ⟨by rfl, by rintro w' ⟨s0, s1⟩; go_simp; with_reducible rfl⟩) hHeld ?_
    refine join_ (σ := Value × Nat) 2 #[true, true, true, true, true, true, true, true, true, false, false] (fun s_ => [(27, .int .i64 t186), (28, .tuple #[.agg #[.int .i64 t189, s_.1], .int .i64 t193]), (6, .pointer (some ⟨s_.2, 0, none⟩)), (23, .tuple #[.agg #[.int .i64 t189, s_.1], .int .i64 t193]), (29, .agg #[.int .i64 t189, s_.1]), (30, .int .i64 t193)]) (fun s_ w' => (w'.cell? ⟨gb179, 0, none⟩ = some (.int .i64 x180000_1) ∧ w'.cell? ⟨gb179, 1, none⟩ = some (.slice Ao23 x180001_1.length co23)) ∧ (Kd.R k63 63 w' w.heap.size (fun k_ => some k_ ≠ (.slice Ao23 x180001_1.length co23 : Value).ownBlock) s_.1 t190) ∧ (Kd.R k63 63 w' w.heap.size (fun k_ => some k_ ≠ (s_.1 : Value).ownBlock) (.slice Ao23 x180001_1.length co23) x180001_1) ∧ (w'.heap[gb171]? = some (.cells #[.int .i64 0, .slice none 0 0] 53 (0, 0))) ∧ (w'.heap[gb179]? = some (.cells #[.int .i64 x180000_1, .slice Ao23 x180001_1.length co23] 53 (0, 0))) ∧ (w'.heap[s_.2]? = some (.cells #[.int .i64 0, .slice none 0 0] 53 (0, 0))) ∧ (w.heap.size ≤ s_.2) ∧ (w0.heap.size ≤ s_.2) ∧ (g ≠ s_.2) ∧ (s_.2 ≠ g) ∧ (gb171 ≠ s_.2) ∧ (s_.2 ≠ gb171) ∧ (gb179 ≠ s_.2) ∧ (s_.2 ≠ gb179) ∧ (IsS102 w0 w' g s0_0 t187 t188) ∧ (KeepBut w w' g none) ∧ (Below w0.heap.size w0 w')) ?_ ?_
    rotate_left
    ·intro hCont
     refine two_ (i := 3) (j := 8) (Ni := some 27) (Nj := some 6) #[true, true, true, true, false, false, false, false, false, false, false] #[true, true, true, false, false, false, false, false, true, false, false] rfl rfl rfl rfl (two_of HT_.out (by kernel_rfl)) (by decide) (by decide) (fun K hK => ?_) (fun K hK => ?_)
     ·skip
      refine goes_ Try.func67 (by kernel_rfl) rfl #[.pointer (some ⟨g, 0, none⟩), .int .i64 40] (by rfl) rfl rfl (zb10) ?_
      with_reducible refine (spec_l01Cur_pick.calls g s0_0 t184 t185 40 t186 t187 t188 w0 _ ?side1 ?side2 A16.out).mono ?_
      (case side1 => exact zb55)
      (case side2 => exact zb56)
      rintro e w26 ⟨rfl, hi, hb, hk⟩
      refine ⟨_, rfl, ?_⟩
      have n0_ := Aside0.mk (Kd.R_mono (Kd.R_keep (IsS102.apart (show IsS102 w0 _ g s0_0 t184 t185 from zb58) (zb62) (by decide)) hk (fun _ h => h.2)) (fun _ h => h.1))
      have n1_ := Aside0.mk (KeepBut.blk hk (g' := gb171) (o := .cells #[.int .i64 0, .slice none 0 0] 53 (0, 0)) (zb51) NB171_0.out (by simp))
      have n2_ := Aside0.mk (KeepBut.blk hk (g' := gb179) (o := .cells #[.int .i64 x180000_1, .slice Ao23 x180001_1.length co23] 53 (0, 0)) (zb60) NB179_0.out (by simp))
      have n3_ := Aside0.mk (KeepBut.trans (zb59) hk (.inl rfl))
      have n4_ := Aside0.mk (hb)
      have n5_ := Aside0.mk (hi)
      clear HO_180001
      clear BK171
      clear BK179
      clear HK
      clear HB
      clear HI0
      have HO_180001 := n0_
      have BK171 := n1_
      have BK179 := n2_
      have HK := n3_
      have HB := n4_
      have HI0 := n5_
      clear n0_ n1_ n2_ n3_ n4_ n5_
      (try clear hb)
      (try clear hb2)
      (try clear hk)
      (try clear hi)
      refine hK.out _ _ ⟨(blk_cell BK179.out 0).trans rfl, (blk_cell BK179.out 1).trans rfl⟩ (fun hHeld => ?_)
      clear hK K
      refine norm_ (a' := ?_) ?_ ?_
      rotate_left
      ·show Act.put _ (some 27) _ = _
       simp only [Act.put, List.setIfInBounds_toArray, List.set_cons_zero, List.set_cons_succ, i64_w, i32_w]
       rfl
      refine two_ (i := 4) (j := 8) (Ni := some 28) (Nj := some 6) #[true, true, true, true, true, false, false, false, false, false, false] #[true, true, true, true, false, false, false, false, true, false, false] rfl rfl rfl rfl (two_of HT_.out (by kernel_rfl)) (by decide) (by decide) (fun K hK => ?_) (fun K hK => ?_)
      ·skip
       refine goes_ Try.func32 (by kernel_rfl) rfl #[.agg #[.int .i64 x180000_1, .slice Ao23 x180001_1.length co23], .int .i64 t183, .int .i64 t186] (by rfl) rfl rfl (zb10) ?_
       with_reducible refine (spec_MarkSet.calls k1 x180000_1 _ _ x180001_1 t183 t186 t189 t190 t193 _ ?side1 ?side2 A17.out).mono ?_
       (case side1 => exact zb63)
       (case side2 => exact (Kd.R_reads' HO_180001.out).2.1)
       rintro e w27 ⟨v191, rfl, ho0, hb⟩
       refine ⟨_, rfl, ?_⟩
       have n0_ := Aside0.mk (Kd.R_elder' (zb62) (Kd.R_base ho0) hb)
       have n1_ := Aside0.mk (Kd.R_lower (Kd.R_new' ho0 (Kd.R_lt (zb62))) (keep_size (w := w) (g := g) (row := none) (zb59)))
       have n2_ := Aside0.mk (blk_below (g := gb171) (o := .cells #[.int .i64 0, .slice none 0 0] 53 (0, 0)) (zb51) hb)
       have n3_ := Aside0.mk (blk_below (g := gb179) (o := .cells #[.int .i64 x180000_1, .slice Ao23 x180001_1.length co23] 53 (0, 0)) (zb60) hb)
       have n4_ := Aside0.mk (IsS102.below (zb58) hb)
       have n5_ := Aside0.mk (KeepBut.trans (zb59) (KeepBut.of_below hb g none) (.inl rfl))
       have n6_ := Aside0.mk (below_step (zb61) hb)
       clear HO_180001
       clear BK171
       clear BK179
       clear HI0
       clear HK
       clear HB
       have HO_180001 := n0_
       have HO192 := n1_
       have BK171 := n2_
       have BK179 := n3_
       have HI0 := n4_
       have HK := n5_
       have HB := n6_
       clear n0_ n1_ n2_ n3_ n4_ n5_ n6_
       (try clear hb)
       (try clear hb2)
       (try clear hk)
       (try clear hi)
       (try clear ho0)
       refine hK.out _ _ ⟨(blk_cell BK179.out 0).trans rfl, (blk_cell BK179.out 1).trans rfl⟩ (fun hHeld => ?_)
       clear hK K
       refine norm_ (a' := ?_) ?_ ?_
       rotate_left
       ·show Act.put _ (some 28) _ = _
        simp only [Act.put, List.setIfInBounds_toArray, List.set_cons_zero, List.set_cons_succ, i64_w, i32_w]
        rfl
       refine pz 5 23 (bz 11 63) rfl rfl ?_
       refine pz 6 29 (bz 11 127) rfl rfl ?_
       refine pz 7 30 (bz 11 255) rfl rfl ?_
       refine one_ (i := 8) (N := some 6) (bz 11 511) rfl rfl (one_of HT_.out (by kernel_rfl)) (by decide) (fun K hK => ?_)
       refine box_step ?hg (N := 6) ?hd (cs := #[.int .i64 0, .slice none 0 0]) (t := 53) ?hr ?_; (case hd => rfl); (case hg => rfl); (case hr => first | (go_simp; done) | (go_simp; rfl))
       intro gb194 hg w28 hbox hb
       have n0_ := Aside0.mk (Kd.R_below (zb62) hb)
       have n1_ := Aside0.mk (Kd.R_below (zb64) hb)
       have n2_ := Aside0.mk (blk_below (g := gb171) (o := .cells #[.int .i64 0, .slice none 0 0] 53 (0, 0)) (zb51) hb)
       have n3_ := Aside0.mk (blk_below (g := gb179) (o := .cells #[.int .i64 x180000_1, .slice Ao23 x180001_1.length co23] 53 (0, 0)) (zb60) hb)
       have n4_ := Aside0.mk (IsS102.below (zb58) hb)
       have n5_ := Aside0.mk (KeepBut.trans (zb59) (KeepBut.of_below hb g none) (.inl rfl))
       have n6_ := Aside0.mk (below_step (zb61) hb)
       have n7_ := Aside0.mk (hbox)
       have n8_ := Aside0.mk ((by rw [hg]; exact (keep_size (w := w) (g := g) (row := none) (zb59)) : w.heap.size ≤ gb194))
       have n9_ := Aside0.mk ((Nat.le_trans HW0.out (by rw [hg]; exact (keep_size (w := w) (g := g) (row := none) (zb59)) : w.heap.size ≤ gb194) : w0.heap.size ≤ gb194))
       have n10_ := Aside0.mk ((by rw [hg]; exact Nat.ne_of_lt (blk_lt (g := gb171) (o := .cells #[.int .i64 0, .slice none 0 0] 53 (0, 0)) (zb51)) : gb171 ≠ gb194))
       have n11_ := Aside0.mk ((by rw [hg]; exact Nat.ne_of_gt (blk_lt (g := gb171) (o := .cells #[.int .i64 0, .slice none 0 0] 53 (0, 0)) (zb51)) : gb194 ≠ gb171))
       have n12_ := Aside0.mk ((by rw [hg]; exact Nat.ne_of_lt (blk_lt (g := gb179) (o := .cells #[.int .i64 x180000_1, .slice Ao23 x180001_1.length co23] 53 (0, 0)) (zb60)) : gb179 ≠ gb194))
       have n13_ := Aside0.mk ((by rw [hg]; exact Nat.ne_of_gt (blk_lt (g := gb179) (o := .cells #[.int .i64 x180000_1, .slice Ao23 x180001_1.length co23] 53 (0, 0)) (zb60)) : gb194 ≠ gb179))
       have n14_ := Aside0.mk ((by rw [hg]; exact Nat.ne_of_lt (IsS102.lt (show IsS102 w0 _ g s0_0 t187 t188 from zb58)) : g ≠ gb194))
       have n15_ := Aside0.mk ((by rw [hg]; exact Nat.ne_of_gt (IsS102.lt (show IsS102 w0 _ g s0_0 t187 t188 from zb58)) : gb194 ≠ g))
       clear HO_180001
       clear HO192
       clear BK171
       clear BK179
       clear HI0
       clear HK
       clear HB
       have HO_180001 := n0_
       have HO192 := n1_
       have BK171 := n2_
       have BK179 := n3_
       have HI0 := n4_
       have HK := n5_
       have HB := n6_
       have BK194 := n7_
       have GW194 := n8_
       have GE194 := n9_
       have NB171_194 := n10_
       have NB194_171 := n11_
       have NB179_194 := n12_
       have NB194_179 := n13_
       have NB0_194 := n14_
       have NB194_0 := n15_
       clear n0_ n1_ n2_ n3_ n4_ n5_ n6_ n7_ n8_ n9_ n10_ n11_ n12_ n13_ n14_ n15_
       clear hb hbox hg
       refine hK.out _ _ ⟨(blk_cell BK179.out 0).trans rfl, (blk_cell BK179.out 1).trans rfl⟩ (fun hHeld => ?_)
       clear hK K
       refine norm_ (a' := ?_) ?_ ?_
       rotate_left
       ·show Act.put _ (some 6) _ = _
        simp only [Act.put, List.setIfInBounds_toArray, List.set_cons_zero, List.set_cons_succ, i64_w, i32_w]
        rfl
       exact norm_ (zb31) (hCont (v191, gb194) _ ⟨hHeld, (zb65), (zb66), (zb51), (zb60), (zb67), GW194.out, GE194.out, NB0_194.out, NB194_0.out, NB171_194.out, NB194_171.out, NB179_194.out, NB194_179.out, (zb68), (zb69), (zb70)⟩)
      ·skip
       refine box_step ?hg (N := 6) ?hd (cs := #[.int .i64 0, .slice none 0 0]) (t := 53) ?hr ?_; (case hd => rfl); (case hg => rfl); (case hr => first | (go_simp; done) | (go_simp; rfl))
       intro gb194 hg w27 hbox hb
       have n0_ := Aside0.mk (Kd.R_below (zb62) hb)
       have n1_ := Aside0.mk (blk_below (g := gb171) (o := .cells #[.int .i64 0, .slice none 0 0] 53 (0, 0)) (zb51) hb)
       have n2_ := Aside0.mk (blk_below (g := gb179) (o := .cells #[.int .i64 x180000_1, .slice Ao23 x180001_1.length co23] 53 (0, 0)) (zb60) hb)
       have n3_ := Aside0.mk (IsS102.below (zb58) hb)
       have n4_ := Aside0.mk (KeepBut.trans (zb59) (KeepBut.of_below hb g none) (.inl rfl))
       have n5_ := Aside0.mk (below_step (zb61) hb)
       have n6_ := Aside0.mk (hbox)
       have n7_ := Aside0.mk ((by rw [hg]; exact (keep_size (w := w) (g := g) (row := none) (zb59)) : w.heap.size ≤ gb194))
       have n8_ := Aside0.mk ((Nat.le_trans HW0.out (by rw [hg]; exact (keep_size (w := w) (g := g) (row := none) (zb59)) : w.heap.size ≤ gb194) : w0.heap.size ≤ gb194))
       have n9_ := Aside0.mk ((by rw [hg]; exact Nat.ne_of_lt (blk_lt (g := gb171) (o := .cells #[.int .i64 0, .slice none 0 0] 53 (0, 0)) (zb51)) : gb171 ≠ gb194))
       have n10_ := Aside0.mk ((by rw [hg]; exact Nat.ne_of_gt (blk_lt (g := gb171) (o := .cells #[.int .i64 0, .slice none 0 0] 53 (0, 0)) (zb51)) : gb194 ≠ gb171))
       have n11_ := Aside0.mk ((by rw [hg]; exact Nat.ne_of_lt (blk_lt (g := gb179) (o := .cells #[.int .i64 x180000_1, .slice Ao23 x180001_1.length co23] 53 (0, 0)) (zb60)) : gb179 ≠ gb194))
       have n12_ := Aside0.mk ((by rw [hg]; exact Nat.ne_of_gt (blk_lt (g := gb179) (o := .cells #[.int .i64 x180000_1, .slice Ao23 x180001_1.length co23] 53 (0, 0)) (zb60)) : gb194 ≠ gb179))
       have n13_ := Aside0.mk ((by rw [hg]; exact Nat.ne_of_lt (IsS102.lt (show IsS102 w0 _ g s0_0 t187 t188 from zb58)) : g ≠ gb194))
       have n14_ := Aside0.mk ((by rw [hg]; exact Nat.ne_of_gt (IsS102.lt (show IsS102 w0 _ g s0_0 t187 t188 from zb58)) : gb194 ≠ g))
       clear HO_180001
       clear BK171
       clear BK179
       clear HI0
       clear HK
       clear HB
       have HO_180001 := n0_
       have BK171 := n1_
       have BK179 := n2_
       have HI0 := n3_
       have HK := n4_
       have HB := n5_
       have BK194 := n6_
       have GW194 := n7_
       have GE194 := n8_
       have NB171_194 := n9_
       have NB194_171 := n10_
       have NB179_194 := n11_
       have NB194_179 := n12_
       have NB0_194 := n13_
       have NB194_0 := n14_
       clear n0_ n1_ n2_ n3_ n4_ n5_ n6_ n7_ n8_ n9_ n10_ n11_ n12_ n13_ n14_
       clear hb hbox hg
       refine hK.out _ _ ⟨(blk_cell BK179.out 0).trans rfl, (blk_cell BK179.out 1).trans rfl⟩ (fun hHeld => ?_)
       clear hK K
       refine norm_ (a' := ?_) ?_ ?_
       rotate_left
       ·show Act.put _ (some 6) _ = _
        simp only [Act.put, List.setIfInBounds_toArray, List.set_cons_zero, List.set_cons_succ, i64_w, i32_w]
        rfl
       refine one_ (i := 4) (N := some 28) (bz 11 287) rfl rfl (one_of HT_.out (by kernel_rfl)) (by decide) (fun K hK => ?_)
       refine goes_ Try.func32 (by kernel_rfl) rfl #[.agg #[.int .i64 x180000_1, .slice Ao23 x180001_1.length co23], .int .i64 t183, .int .i64 t186] (by rfl) rfl rfl (zb10) ?_
       with_reducible refine (spec_MarkSet.calls k1 x180000_1 _ _ x180001_1 t183 t186 t189 t190 t193 _ ?side1 ?side2 A17.out).mono ?_
       (case side1 => exact zb63)
       (case side2 => exact (Kd.R_reads' HO_180001.out).2.1)
       rintro e w28 ⟨v191, rfl, ho0, hb⟩
       refine ⟨_, rfl, ?_⟩
       have n0_ := Aside0.mk (Kd.R_elder' (zb62) (Kd.R_base ho0) hb)
       have n1_ := Aside0.mk (Kd.R_lower (Kd.R_new' ho0 (Kd.R_lt (zb62))) (keep_size (w := w) (g := g) (row := none) (zb69)))
       have n2_ := Aside0.mk (blk_below (g := gb171) (o := .cells #[.int .i64 0, .slice none 0 0] 53 (0, 0)) (zb51) hb)
       have n3_ := Aside0.mk (blk_below (g := gb179) (o := .cells #[.int .i64 x180000_1, .slice Ao23 x180001_1.length co23] 53 (0, 0)) (zb60) hb)
       have n4_ := Aside0.mk (IsS102.below (zb68) hb)
       have n5_ := Aside0.mk (blk_below (g := gb194) (o := .cells #[.int .i64 0, .slice none 0 0] 53 (0, 0)) (zb67) hb)
       have n6_ := Aside0.mk (KeepBut.trans (zb69) (KeepBut.of_below hb g none) (.inl rfl))
       have n7_ := Aside0.mk (below_step (zb70) hb)
       clear HO_180001
       clear BK171
       clear BK179
       clear HI0
       clear BK194
       clear HK
       clear HB
       have HO_180001 := n0_
       have HO192 := n1_
       have BK171 := n2_
       have BK179 := n3_
       have HI0 := n4_
       have BK194 := n5_
       have HK := n6_
       have HB := n7_
       clear n0_ n1_ n2_ n3_ n4_ n5_ n6_ n7_
       (try clear hb)
       (try clear hb2)
       (try clear hk)
       (try clear hi)
       (try clear ho0)
       refine hK.out _ _ ⟨(blk_cell BK179.out 0).trans rfl, (blk_cell BK179.out 1).trans rfl⟩ (fun hHeld => ?_)
       clear hK K
       refine norm_ (a' := ?_) ?_ ?_
       rotate_left
       ·show Act.put _ (some 28) _ = _
        simp only [Act.put, List.setIfInBounds_toArray, List.set_cons_zero, List.set_cons_succ, i64_w, i32_w]
        rfl
       refine pz 5 23 (bz 11 319) rfl rfl ?_
       refine pz 6 29 (bz 11 383) rfl rfl ?_
       refine pz 7 30 (bz 11 511) rfl rfl ?_
       exact norm_ (zb31) (hCont (v191, gb194) _ ⟨hHeld, (zb65), (zb66), (zb51), (zb60), (zb67), GW194.out, GE194.out, NB0_194.out, NB194_0.out, NB171_194.out, NB194_171.out, NB179_194.out, NB194_179.out, (zb68), (zb69), (zb70)⟩)
     ·skip
      refine box_step ?hg (N := 6) ?hd (cs := #[.int .i64 0, .slice none 0 0]) (t := 53) ?hr ?_; (case hd => rfl); (case hg => rfl); (case hr => first | (go_simp; done) | (go_simp; rfl))
      intro gb194 hg w26 hbox hb
      have n0_ := Aside0.mk (Kd.R_below (zb62) hb)
      have n1_ := Aside0.mk (blk_below (g := gb171) (o := .cells #[.int .i64 0, .slice none 0 0] 53 (0, 0)) (zb51) hb)
      have n2_ := Aside0.mk (blk_below (g := gb179) (o := .cells #[.int .i64 x180000_1, .slice Ao23 x180001_1.length co23] 53 (0, 0)) (zb60) hb)
      have n3_ := Aside0.mk (IsS102.below (zb58) hb)
      have n4_ := Aside0.mk (KeepBut.trans (zb59) (KeepBut.of_below hb g none) (.inl rfl))
      have n5_ := Aside0.mk (below_step (zb61) hb)
      have n6_ := Aside0.mk (hbox)
      have n7_ := Aside0.mk ((by rw [hg]; exact (keep_size (w := w) (g := g) (row := none) (zb59)) : w.heap.size ≤ gb194))
      have n8_ := Aside0.mk ((Nat.le_trans HW0.out (by rw [hg]; exact (keep_size (w := w) (g := g) (row := none) (zb59)) : w.heap.size ≤ gb194) : w0.heap.size ≤ gb194))
      have n9_ := Aside0.mk ((by rw [hg]; exact Nat.ne_of_lt (blk_lt (g := gb171) (o := .cells #[.int .i64 0, .slice none 0 0] 53 (0, 0)) (zb51)) : gb171 ≠ gb194))
      have n10_ := Aside0.mk ((by rw [hg]; exact Nat.ne_of_gt (blk_lt (g := gb171) (o := .cells #[.int .i64 0, .slice none 0 0] 53 (0, 0)) (zb51)) : gb194 ≠ gb171))
      have n11_ := Aside0.mk ((by rw [hg]; exact Nat.ne_of_lt (blk_lt (g := gb179) (o := .cells #[.int .i64 x180000_1, .slice Ao23 x180001_1.length co23] 53 (0, 0)) (zb60)) : gb179 ≠ gb194))
      have n12_ := Aside0.mk ((by rw [hg]; exact Nat.ne_of_gt (blk_lt (g := gb179) (o := .cells #[.int .i64 x180000_1, .slice Ao23 x180001_1.length co23] 53 (0, 0)) (zb60)) : gb194 ≠ gb179))
      have n13_ := Aside0.mk ((by rw [hg]; exact Nat.ne_of_lt (IsS102.lt (show IsS102 w0 _ g s0_0 t184 t185 from zb58)) : g ≠ gb194))
      have n14_ := Aside0.mk ((by rw [hg]; exact Nat.ne_of_gt (IsS102.lt (show IsS102 w0 _ g s0_0 t184 t185 from zb58)) : gb194 ≠ g))
      clear HO_180001
      clear BK171
      clear BK179
      clear HI0
      clear HK
      clear HB
      have HO_180001 := n0_
      have BK171 := n1_
      have BK179 := n2_
      have HI0 := n3_
      have HK := n4_
      have HB := n5_
      have BK194 := n6_
      have GW194 := n7_
      have GE194 := n8_
      have NB171_194 := n9_
      have NB194_171 := n10_
      have NB179_194 := n11_
      have NB194_179 := n12_
      have NB0_194 := n13_
      have NB194_0 := n14_
      clear n0_ n1_ n2_ n3_ n4_ n5_ n6_ n7_ n8_ n9_ n10_ n11_ n12_ n13_ n14_
      clear hb hbox hg
      refine hK.out _ _ ⟨(blk_cell BK179.out 0).trans rfl, (blk_cell BK179.out 1).trans rfl⟩ (fun hHeld => ?_)
      clear hK K
      refine norm_ (a' := ?_) ?_ ?_
      rotate_left
      ·show Act.put _ (some 6) _ = _
       simp only [Act.put, List.setIfInBounds_toArray, List.set_cons_zero, List.set_cons_succ, i64_w, i32_w]
       rfl
      refine one_ (i := 3) (N := some 27) (bz 11 271) rfl rfl (one_of HT_.out (by kernel_rfl)) (by decide) (fun K hK => ?_)
      refine goes_ Try.func67 (by kernel_rfl) rfl #[.pointer (some ⟨g, 0, none⟩), .int .i64 40] (by rfl) rfl rfl (zb10) ?_
      with_reducible refine (spec_l01Cur_pick.calls g s0_0 t184 t185 40 t186 t187 t188 w0 _ ?side1 ?side2 A16.out).mono ?_
      (case side1 => exact zb71)
      (case side2 => exact zb72)
      rintro e w27 ⟨rfl, hi, hb, hk⟩
      refine ⟨_, rfl, ?_⟩
      have n0_ := Aside0.mk (Kd.R_mono (Kd.R_keep (IsS102.apart (show IsS102 w0 _ g s0_0 t184 t185 from zb68) (zb62) (by decide)) hk (fun _ h => h.2)) (fun _ h => h.1))
      have n1_ := Aside0.mk (KeepBut.blk hk (g' := gb171) (o := .cells #[.int .i64 0, .slice none 0 0] 53 (0, 0)) (zb51) NB171_0.out (by simp))
      have n2_ := Aside0.mk (KeepBut.blk hk (g' := gb179) (o := .cells #[.int .i64 x180000_1, .slice Ao23 x180001_1.length co23] 53 (0, 0)) (zb60) NB179_0.out (by simp))
      have n3_ := Aside0.mk (KeepBut.blk hk (g' := gb194) (o := .cells #[.int .i64 0, .slice none 0 0] 53 (0, 0)) (zb67) NB194_0.out (by simp))
      have n4_ := Aside0.mk (KeepBut.trans (zb69) hk (.inl rfl))
      have n5_ := Aside0.mk (hb)
      have n6_ := Aside0.mk (hi)
      clear HO_180001
      clear BK171
      clear BK179
      clear BK194
      clear HK
      clear HB
      clear HI0
      have HO_180001 := n0_
      have BK171 := n1_
      have BK179 := n2_
      have BK194 := n3_
      have HK := n4_
      have HB := n5_
      have HI0 := n6_
      clear n0_ n1_ n2_ n3_ n4_ n5_ n6_
      (try clear hb)
      (try clear hb2)
      (try clear hk)
      (try clear hi)
      refine hK.out _ _ ⟨(blk_cell BK179.out 0).trans rfl, (blk_cell BK179.out 1).trans rfl⟩ (fun hHeld => ?_)
      clear hK K
      refine norm_ (a' := ?_) ?_ ?_
      rotate_left
      ·show Act.put _ (some 27) _ = _
       simp only [Act.put, List.setIfInBounds_toArray, List.set_cons_zero, List.set_cons_succ, i64_w, i32_w]
       rfl
      refine one_ (i := 4) (N := some 28) (bz 11 287) rfl rfl (one_of HT_.out (by kernel_rfl)) (by decide) (fun K hK => ?_)
      refine goes_ Try.func32 (by kernel_rfl) rfl #[.agg #[.int .i64 x180000_1, .slice Ao23 x180001_1.length co23], .int .i64 t183, .int .i64 t186] (by rfl) rfl rfl (zb10) ?_
      with_reducible refine (spec_MarkSet.calls k1 x180000_1 _ _ x180001_1 t183 t186 t189 t190 t193 _ ?side1 ?side2 A17.out).mono ?_
      (case side1 => exact zb63)
      (case side2 => exact (Kd.R_reads' HO_180001.out).2.1)
      rintro e w28 ⟨v191, rfl, ho0, hb⟩
      refine ⟨_, rfl, ?_⟩
      have n0_ := Aside0.mk (Kd.R_elder' (zb62) (Kd.R_base ho0) hb)
      have n1_ := Aside0.mk (Kd.R_lower (Kd.R_new' ho0 (Kd.R_lt (zb62))) (keep_size (w := w) (g := g) (row := none) (zb69)))
      have n2_ := Aside0.mk (blk_below (g := gb171) (o := .cells #[.int .i64 0, .slice none 0 0] 53 (0, 0)) (zb51) hb)
      have n3_ := Aside0.mk (blk_below (g := gb179) (o := .cells #[.int .i64 x180000_1, .slice Ao23 x180001_1.length co23] 53 (0, 0)) (zb60) hb)
      have n4_ := Aside0.mk (IsS102.below (zb68) hb)
      have n5_ := Aside0.mk (blk_below (g := gb194) (o := .cells #[.int .i64 0, .slice none 0 0] 53 (0, 0)) (zb67) hb)
      have n6_ := Aside0.mk (KeepBut.trans (zb69) (KeepBut.of_below hb g none) (.inl rfl))
      have n7_ := Aside0.mk (below_step (zb70) hb)
      clear HO_180001
      clear BK171
      clear BK179
      clear HI0
      clear BK194
      clear HK
      clear HB
      have HO_180001 := n0_
      have HO192 := n1_
      have BK171 := n2_
      have BK179 := n3_
      have HI0 := n4_
      have BK194 := n5_
      have HK := n6_
      have HB := n7_
      clear n0_ n1_ n2_ n3_ n4_ n5_ n6_ n7_
      (try clear hb)
      (try clear hb2)
      (try clear hk)
      (try clear hi)
      (try clear ho0)
      refine hK.out _ _ ⟨(blk_cell BK179.out 0).trans rfl, (blk_cell BK179.out 1).trans rfl⟩ (fun hHeld => ?_)
      clear hK K
      refine norm_ (a' := ?_) ?_ ?_
      rotate_left
      ·show Act.put _ (some 28) _ = _
       simp only [Act.put, List.setIfInBounds_toArray, List.set_cons_zero, List.set_cons_succ, i64_w, i32_w]
       rfl
      refine pz 5 23 (bz 11 319) rfl rfl ?_
      refine pz 6 29 (bz 11 383) rfl rfl ?_
      refine pz 7 30 (bz 11 511) rfl rfl ?_
      exact norm_ (zb31) (hCont (v191, gb194) _ ⟨hHeld, (zb65), (zb66), (zb51), (zb60), (zb67), GW194.out, GE194.out, NB0_194.out, NB194_0.out, NB171_194.out, NB194_171.out, NB179_194.out, NB194_179.out, (zb68), (zb69), (zb70)⟩)
    rintro ⟨v191, gb194⟩ w29 ⟨hS_, h0_, h1_, h2_, h3_, h4_, h5_, h6_, h7_, h8_, h9_, h10_, h11_, h12_, h13_, h14_, h15_⟩
    have n0_ : Aside0 (Kd.R k63 63 w29 w.heap.size (fun k_ => some k_ ≠ (.slice Ao23 x180001_1.length co23 : Value).ownBlock) v191 t190) := ⟨h0_⟩
    have n1_ : Aside0 (Kd.R k63 63 w29 w.heap.size (fun k_ => some k_ ≠ (v191 : Value).ownBlock) (.slice Ao23 x180001_1.length co23) x180001_1) := ⟨h1_⟩
    have n2_ : Aside0 (w29.heap[gb171]? = some (.cells #[.int .i64 0, .slice none 0 0] 53 (0, 0))) := ⟨h2_⟩
    have n3_ : Aside0 (w29.heap[gb179]? = some (.cells #[.int .i64 x180000_1, .slice Ao23 x180001_1.length co23] 53 (0, 0))) := ⟨h3_⟩
    have n4_ : Aside0 (w29.heap[gb194]? = some (.cells #[.int .i64 0, .slice none 0 0] 53 (0, 0))) := ⟨h4_⟩
    have n5_ : Aside0 (w.heap.size ≤ gb194) := ⟨h5_⟩
    have n6_ : Aside0 (w0.heap.size ≤ gb194) := ⟨h6_⟩
    have n7_ : Aside0 (g ≠ gb194) := ⟨h7_⟩
    have n8_ : Aside0 (gb194 ≠ g) := ⟨h8_⟩
    have n9_ : Aside0 (gb171 ≠ gb194) := ⟨h9_⟩
    have n10_ : Aside0 (gb194 ≠ gb171) := ⟨h10_⟩
    have n11_ : Aside0 (gb179 ≠ gb194) := ⟨h11_⟩
    have n12_ : Aside0 (gb194 ≠ gb179) := ⟨h12_⟩
    have n13_ : Aside0 (IsS102 w0 w29 g s0_0 t187 t188) := ⟨h13_⟩
    have n14_ : Aside0 (KeepBut w w29 g none) := ⟨h14_⟩
    have n15_ : Aside0 (Below w0.heap.size w0 w29) := ⟨h15_⟩
    clear HO_180001
    clear BK171
    clear BK179
    clear HI0
    clear HK
    clear HB
    clear h0_ h1_ h2_ h3_ h4_ h5_ h6_ h7_ h8_ h9_ h10_ h11_ h12_ h13_ h14_ h15_
    have HO192 := n0_
    have HO_180001 := n1_
    have BK171 := n2_
    have BK179 := n3_
    have BK194 := n4_
    have GW194 := n5_
    have GE194 := n6_
    have NB0_194 := n7_
    have NB194_0 := n8_
    have NB171_194 := n9_
    have NB194_171 := n10_
    have NB179_194 := n11_
    have NB194_179 := n12_
    have HI0 := n13_
    have HK := n14_
    have HB := n15_
    clear n0_ n1_ n2_ n3_ n4_ n5_ n6_ n7_ n8_ n9_ n10_ n11_ n12_ n13_ n14_ n15_
    have hHeld : w29.cell? ⟨gb179, 0, none⟩ = some (.int .i64 x180000_1) ∧ w29.cell? ⟨gb179, 1, none⟩ = some (.slice Ao23 x180001_1.length co23) := hS_
    obtain ⟨Ao31, co31, eo31⟩ := Kd.R_slice HO192.out
    (first | subst eo31 | (injection eo31 with f1_ f2_ f3_; have f4_ := f1_.symm; have f5_ := f3_.symm; clear f1_ f2_ f3_; subst f4_; subst f5_))
    refine norm_ (a' := ?_) ?_ ?_
    rotate_left
    ·simp only [putAll, Act.put, List.setIfInBounds_toArray, List.set_cons_zero, List.set_cons_succ]
     rfl
    refine one_ (i := 9) (N := none) (bz 11 1023) rfl rfl (one_of HT_.out (by kernel_rfl)) (by decide) (fun K hK => ?_)
    have hs30 : w29.cell? ⟨gb194, 0, none⟩ = some (.int .i64 0) := (blk_cell BK194.out 0).trans rfl
    have hfs30 := blk_frozen BK194.out 0
    have hns30_0 := NB171_194.out
    have hns30_1 := NB179_194.out
    have hms30_0 := NB194_171.out
    have hms30_1 := NB194_179.out
    have hs32 : w29.cell? ⟨gb194, 1, none⟩ = some (.slice none 0 0) := (blk_cell BK194.out 1).trans rfl
    have hfs32 := blk_frozen BK194.out 1
    have hns32_0 := NB171_194.out
    have hns32_1 := NB179_194.out
    have hms32_0 := NB194_171.out
    have hms32_1 := NB194_179.out
    refine skip_ (w1 := ?_) (by rfl) rfl ?_ ?_
    rotate_left
    ·go_simp
     rfl
    refine hK.out _ _ ⟨((cell_far (p := ⟨gb194, _, none⟩) NB179_194.out _).trans (((cell_far (p := ⟨gb194, _, none⟩) NB179_194.out _).trans (hHeld.1)))), ((cell_far (p := ⟨gb194, _, none⟩) NB179_194.out _).trans (((cell_far (p := ⟨gb194, _, none⟩) NB179_194.out _).trans (hHeld.2))))⟩ (fun hHeld => ?_)
    clear hK K
    refine pz 10 7 (bz 11 2047) rfl rfl ?_
    refine done_ (done_of HT_.out (by kernel_rfl)) ?_
    go_upto_if 32 with (first | ((with_reducible refine gate_callee (f := 93) rfl ?_); refine goesL_ (some 32) rfl rfl Try.func93 (by kernel_rfl) rfl #[.pointer (some ⟨g, 0, none⟩), .int .i64 4] rfl (zb10) ?_; (with_reducible refine (spec_l01Cur_once.calls g s0_0 t187 t188 4 t195 t196 t197 w0 _ ?side1 ?side2 A18.out).mono ?_); (case side1 => exact zb71); (case side2 => exact zb72); rintro e w33 ⟨rfl, hi, hb, hk⟩; refine ⟨_, rfl, ?_⟩; have n0_ := Aside0.mk (Kd.R_mono (Kd.R_keep (IsS102.apart (show IsS102 w0 _ g s0_0 t187 t188 from zb68) (by (with_reducible repeat (first | apply Kd.R_alloc | apply Kd.R_drewN | apply Kd.R_drew)); exact (Kd.R_mono (Kd.R_far (p := ⟨gb194, 1, none⟩) (Kd.R_far (p := ⟨gb194, 0, none⟩) (Kd.R_types HO_180001.out BK194.out (by decide)) (fun _ hk => hk.2) (.int .i64 t189)) (fun _ hk => hk.2) (.slice Ao31 t190.length co31)) (fun _ h_ => h_.1))) (by decide)) hk (fun _ h => h.2)) (fun _ h => h.1)); have n1_ := Aside0.mk (KeepBut.blk hk (g' := gb171) (o := .cells #[.int .i64 0, .slice none 0 0] 53 (0, 0)) (zb73) NB171_0.out (by simp)); have n2_ := Aside0.mk (KeepBut.blk hk (g' := gb179) (o := .cells #[.int .i64 x180000_1, .slice Ao23 x180001_1.length co23] 53 (0, 0)) (zb74) NB179_0.out (by simp)); have n3_ := Aside0.mk (Kd.R_mono (Kd.R_keep (IsS102.apart (show IsS102 w0 _ g s0_0 t187 t188 from zb68) (by (with_reducible repeat (first | apply Kd.R_alloc | apply Kd.R_drewN | apply Kd.R_drew)); exact (Kd.R_mono (Kd.R_far (p := ⟨gb194, 1, none⟩) (Kd.R_far (p := ⟨gb194, 0, none⟩) (Kd.R_types HO192.out BK194.out (by decide)) (fun _ hk => hk.2) (.int .i64 t189)) (fun _ hk => hk.2) (.slice Ao31 t190.length co31)) (fun _ h_ => h_.1))) (by decide)) hk (fun _ h => h.2)) (fun _ h => h.1)); have n4_ := Aside0.mk (KeepBut.blk hk (g' := gb194) (o := .cells #[.int .i64 t189, .slice Ao31 t190.length co31] 53 (0, 0)) (by (with_reducible repeat (first | refine blk_drewN ?_ _ | refine blk_drew ?_ | refine blk_alloc ?_ _)); refine blk_put (cs := #[.int .i64 t189, .slice none 0 0]) ?_ 1 _ rfl; (with_reducible repeat (first | refine blk_drewN ?_ _ | refine blk_drew ?_ | refine blk_alloc ?_ _)); refine blk_put (cs := #[.int .i64 0, .slice none 0 0]) ?_ 0 _ rfl; (with_reducible repeat (first | refine blk_drewN ?_ _ | refine blk_drew ?_ | refine blk_alloc ?_ _)); exact BK194.out) NB194_0.out (by simp)); have n5_ := Aside0.mk (KeepBut.trans (zb69) hk (.inl rfl)); have n6_ := Aside0.mk (hb); have n7_ := Aside0.mk (hi); clear HO_180001; clear BK171; clear BK179; clear HO192; clear BK194; clear HK; clear HB; clear HI0; have HO_180001 := n0_; have BK171 := n1_; have BK179 := n2_; have HO192 := n3_; have BK194 := n4_; have HK := n5_; have HB := n6_; have HI0 := n7_; clear n0_ n1_ n2_ n3_ n4_ n5_ n6_ n7_; (try clear hb); (try clear hb2); (try clear hk); (try clear hi)))
    (try simp only [Act.put, List.setIfInBounds_toArray, List.set_cons_zero, List.set_cons_succ])
    go_cut [7] (fun v7 wc => ∃ (kq : Nat) (x7_18 : Int) (x1001_18 : Int) (x1002_18 : Int) (x195000_18 : Int) (x195001_18 : List (S63)) (u195001 : Value), v7 = .int .i64 x7_18 ∧ Aside0 (spec_l01Cur_marks.j1 kq x4_1 x7_18 s0_0 x1001_18 x1002_18 x180000_1 x180001_1 x195000_18 x195001_18 = some (r1, r2, r3, r4)) ∧ Aside0 (kq ≤ k1) ∧ Aside0 (Kd.R k63 63 wc w.heap.size (fun k_ => some k_ ≠ (u195001 : Value).ownBlock) (.slice Ao23 x180001_1.length co23) x180001_1) ∧ Aside0 (Kd.R k63 63 wc w.heap.size (fun k_ => some k_ ≠ ((.slice Ao23 x180001_1.length co23) : Value).ownBlock) u195001 x195001_18) ∧ Aside0 (wc.heap[gb171]? = some (.cells #[.int .i64 0, (.slice none 0 0)] 53 (0, 0))) ∧ Aside0 (wc.heap[gb179]? = some (.cells #[.int .i64 x180000_1, (.slice Ao23 x180001_1.length co23)] 53 (0, 0))) ∧ Aside0 (wc.heap[gb194]? = some (.cells #[.int .i64 x195000_18, u195001] 53 (0, 0))) ∧ Aside0 (IsS102 w0 wc g s0_0 x1001_18 x1002_18) ∧ Aside0 (KeepBut w wc g none) ∧ Aside0 (Below w0.heap.size w0 wc))
    case first =>
     have H := HC19.out
     clear HC19
     by_cases c34 : t195 = true
     ·subst c34
      have H1 : ((spec_l01Cur_once.f s0_0 t196 t197 2).bind fun bt198 => ((spec_MarkIdle.f k1 x180000_1 x180001_1 t183 bt198.1).bind fun bt201 => (spec_l01Cur_marks.j1 k1 x4_1 bt201.2.2 s0_0 bt198.2.1 bt198.2.2 x180000_1 x180001_1 bt201.1 bt201.2.1))) = some (r1, r2, r3, r4) := by rw [if_pos rfl] at H; exact H
      clear H
      have H := H1
      clear H1
      replace H := Option.bind_eq_some_iff.mp H
      obtain ⟨⟨t198, t199, t200⟩, A350, H⟩ := H
      replace H : ((spec_MarkIdle.f k1 x180000_1 x180001_1 t183 t198).bind fun bt201 => (spec_l01Cur_marks.j1 k1 x4_1 bt201.2.2 s0_0 t199 t200 x180000_1 x180001_1 bt201.1 bt201.2.1)) = some (r1, r2, r3, r4) := H
      have A35 := Aside0.mk A350
      clear A350
      replace H := Option.bind_eq_some_iff.mp H
      obtain ⟨⟨t201, t202, t205⟩, A360, H⟩ := H
      replace H : (spec_l01Cur_marks.j1 k1 x4_1 t205 s0_0 t199 t200 x180000_1 x180001_1 t201 t202) = some (r1, r2, r3, r4) := H
      have A36 := Aside0.mk A360
      clear A360
      have H' := Aside0.mk H
      clear H
      try go_wp2
      have n0_ := Aside0.mk (Kd.R_drew HO_180001.out)
      have n1_ := Aside0.mk (Kd.R_drew HO192.out)
      have n2_ := Aside0.mk (blk_drew BK171.out)
      have n3_ := Aside0.mk (blk_drew BK179.out)
      have n4_ := Aside0.mk (blk_drew BK194.out)
      have n5_ := Aside0.mk (IsS102.drew HI0.out)
      have n6_ := Aside0.mk (keep_drew HK.out)
      have n7_ := Aside0.mk (below_drew1 HB.out)
      clear HO_180001
      clear HO192
      clear BK171
      clear BK179
      clear BK194
      clear HI0
      clear HK
      clear HB
      have HO_180001 := n0_
      have HO192 := n1_
      have BK171 := n2_
      have BK179 := n3_
      have BK194 := n4_
      have HI0 := n5_
      have HK := n6_
      have HB := n7_
      clear n0_ n1_ n2_ n3_ n4_ n5_ n6_ n7_
      refine start_ (n := 10) (S := fun w' => w'.cell? ⟨gb179, 0, none⟩ = some (.int .i64 x180000_1) ∧ w'.cell? ⟨gb179, 1, none⟩ = some (.slice Ao23 x180001_1.length co23)) (ds := []) #[false, false, false, false, false, false, false, false, false, false] (by kernel_rfl) rfl rfl ⟨(blk_cell BK179.out 0).trans rfl, (blk_cell BK179.out 1).trans rfl⟩ (fun hHeld => ?_); refine with_tabW spec_l01Cur_marks.tab8 spec_l01Cur_marks.bits8 (fun HT_ HW_ => ?_)
      generalize w33.drew = w37 at HO_180001 HO192 BK171 BK179 BK194 HI0 HK HB hHeld ⊢
      refine pz 1 35 (bz 10 2) rfl rfl ?_
      refine pz 2 36 (bz 10 6) rfl rfl ?_
      refine tz 0 34 (bz 10 7) rfl rfl (Or.inl ⟨by rfl, by rintro w' ⟨s0, s1⟩; go_simp; with_reducible rfl⟩) hHeld ?_
      refine one_ (i := 3) (N := some 37) (bz 10 15) rfl rfl (one_of HT_.out (by kernel_rfl)) (by decide) (fun K hK => ?_)
      refine goes_ Try.func93 (by kernel_rfl) rfl #[.pointer (some ⟨g, 0, none⟩), .int .i64 2] (by rfl) rfl rfl (zb10) ?_
      with_reducible refine (spec_l01Cur_once.calls g s0_0 t196 t197 2 t198 t199 t200 w0 _ ?side1 ?side2 A35.out).mono ?_
      (case side1 => exact zb71)
      (case side2 => exact zb72)
      rintro e w38 ⟨rfl, hi, hb, hk⟩
      refine ⟨_, rfl, ?_⟩
      have n0_ := Aside0.mk (Kd.R_mono (Kd.R_keep (IsS102.apart (show IsS102 w0 _ g s0_0 t196 t197 from zb68) (zb62) (by decide)) hk (fun _ h => h.2)) (fun _ h => h.1))
      have n1_ := Aside0.mk (KeepBut.blk hk (g' := gb171) (o := .cells #[.int .i64 0, .slice none 0 0] 53 (0, 0)) (zb51) NB171_0.out (by simp))
      have n2_ := Aside0.mk (KeepBut.blk hk (g' := gb179) (o := .cells #[.int .i64 x180000_1, .slice Ao23 x180001_1.length co23] 53 (0, 0)) (zb60) NB179_0.out (by simp))
      have n3_ := Aside0.mk (Kd.R_mono (Kd.R_keep (IsS102.apart (show IsS102 w0 _ g s0_0 t196 t197 from zb68) (zb64) (by decide)) hk (fun _ h => h.2)) (fun _ h => h.1))
      have n4_ := Aside0.mk (KeepBut.blk hk (g' := gb194) (o := .cells #[.int .i64 t189, .slice Ao31 t190.length co31] 53 (0, 0)) (zb67) NB194_0.out (by simp))
      have n5_ := Aside0.mk (KeepBut.trans (zb69) hk (.inl rfl))
      have n6_ := Aside0.mk (hb)
      have n7_ := Aside0.mk (hi)
      clear HO_180001
      clear BK171
      clear BK179
      clear HO192
      clear BK194
      clear HK
      clear HB
      clear HI0
      have HO_180001 := n0_
      have BK171 := n1_
      have BK179 := n2_
      have HO192 := n3_
      have BK194 := n4_
      have HK := n5_
      have HB := n6_
      have HI0 := n7_
      clear n0_ n1_ n2_ n3_ n4_ n5_ n6_ n7_
      (try clear hb)
      (try clear hb2)
      (try clear hk)
      (try clear hi)
      refine hK.out _ _ ⟨(blk_cell BK179.out 0).trans rfl, (blk_cell BK179.out 1).trans rfl⟩ (fun hHeld => ?_)
      clear hK K
      refine norm_ (a' := ?_) ?_ ?_
      rotate_left
      ·show Act.put _ (some 37) _ = _
       simp only [Act.put, List.setIfInBounds_toArray, List.set_cons_zero, List.set_cons_succ, i64_w, i32_w]
       rfl
      refine one_ (i := 4) (N := some 38) (bz 10 31) rfl rfl (one_of HT_.out (by kernel_rfl)) (by decide) (fun K hK => ?_)
      refine goes_ Try.func34 (by kernel_rfl) rfl #[.agg #[.int .i64 x180000_1, .slice Ao23 x180001_1.length co23], .int .i64 t183, .bool t198] (by rfl) rfl rfl (zb10) ?_
      with_reducible refine (spec_MarkIdle.calls k1 x180000_1 _ _ x180001_1 t183 t198 t201 t202 t205 _ ?side1 ?side2 A36.out).mono ?_
      (case side1 => exact zb63)
      (case side2 => exact (Kd.R_reads' HO_180001.out).2.1)
      rintro e w39 ⟨v203, rfl, ho0, hb⟩
      refine ⟨_, rfl, ?_⟩
      have n0_ := Aside0.mk (Kd.R_elder' (zb62) (Kd.R_base ho0) hb)
      have n1_ := Aside0.mk (Kd.R_elder' (zb64) (Kd.R_base ho0) hb)
      have n2_ := Aside0.mk (Kd.R_lower (Kd.R_new' (Kd.R_new' ho0 (Kd.R_lt (zb62))) (Kd.R_lt (zb64))) (keep_size (w := w) (g := g) (row := none) (zb69)))
      have n3_ := Aside0.mk (blk_below (g := gb171) (o := .cells #[.int .i64 0, .slice none 0 0] 53 (0, 0)) (zb51) hb)
      have n4_ := Aside0.mk (blk_below (g := gb179) (o := .cells #[.int .i64 x180000_1, .slice Ao23 x180001_1.length co23] 53 (0, 0)) (zb60) hb)
      have n5_ := Aside0.mk (IsS102.below (zb68) hb)
      have n6_ := Aside0.mk (blk_below (g := gb194) (o := .cells #[.int .i64 t189, .slice Ao31 t190.length co31] 53 (0, 0)) (zb67) hb)
      have n7_ := Aside0.mk (KeepBut.trans (zb69) (KeepBut.of_below hb g none) (.inl rfl))
      have n8_ := Aside0.mk (below_step (zb70) hb)
      clear HO_180001
      clear HO192
      clear BK171
      clear BK179
      clear HI0
      clear BK194
      clear HK
      clear HB
      have HO_180001 := n0_
      have HO192 := n1_
      have HO204 := n2_
      have BK171 := n3_
      have BK179 := n4_
      have HI0 := n5_
      have BK194 := n6_
      have HK := n7_
      have HB := n8_
      clear n0_ n1_ n2_ n3_ n4_ n5_ n6_ n7_ n8_
      (try clear hb)
      (try clear hb2)
      (try clear hk)
      (try clear hi)
      (try clear ho0)
      obtain ⟨Ao41, co41, eo41⟩ := Kd.R_slice HO204.out
      (first | subst eo41 | (injection eo41 with f1_ f2_ f3_; have f4_ := f1_.symm; have f5_ := f3_.symm; clear f1_ f2_ f3_; subst f4_; subst f5_))
      refine hK.out _ _ ⟨(blk_cell BK179.out 0).trans rfl, (blk_cell BK179.out 1).trans rfl⟩ (fun hHeld => ?_)
      clear hK K
      refine norm_ (a' := ?_) ?_ ?_
      rotate_left
      ·show Act.put _ (some 38) _ = _
       simp only [Act.put, List.setIfInBounds_toArray, List.set_cons_zero, List.set_cons_succ, i64_w, i32_w]
       rfl
      refine pz 5 33 (bz 10 63) rfl rfl ?_
      refine pz 6 39 (bz 10 127) rfl rfl ?_
      refine pz 7 40 (bz 10 255) rfl rfl ?_
      refine one_ (i := 8) (N := none) (bz 10 511) rfl rfl (one_of HT_.out (by kernel_rfl)) (by decide) (fun K hK => ?_)
      have hs40 : w39.cell? ⟨gb194, 0, none⟩ = some (.int .i64 t189) := (blk_cell BK194.out 0).trans rfl
      have hfs40 := blk_frozen BK194.out 0
      have hns40_0 := NB171_194.out
      have hns40_1 := NB179_194.out
      have hms40_0 := NB194_171.out
      have hms40_1 := NB194_179.out
      have hs42 : w39.cell? ⟨gb194, 1, none⟩ = some (.slice Ao31 t190.length co31) := (blk_cell BK194.out 1).trans rfl
      have hfs42 := blk_frozen BK194.out 1
      have hns42_0 := NB171_194.out
      have hns42_1 := NB179_194.out
      have hms42_0 := NB194_171.out
      have hms42_1 := NB194_179.out
      refine skip_ (w1 := ?_) (by rfl) rfl ?_ ?_
      rotate_left
      ·go_simp
       rfl
      refine hK.out _ _ ⟨((cell_far (p := ⟨gb194, _, none⟩) NB179_194.out _).trans (((cell_far (p := ⟨gb194, _, none⟩) NB179_194.out _).trans (hHeld.1)))), ((cell_far (p := ⟨gb194, _, none⟩) NB179_194.out _).trans (((cell_far (p := ⟨gb194, _, none⟩) NB179_194.out _).trans (hHeld.2))))⟩ (fun hHeld => ?_)
      clear hK K
      refine pz 9 7 (bz 10 1023) rfl rfl ?_
      refine done_ (done_of HT_.out (by kernel_rfl)) ?_
      try go_wp2
      go_meet
      case rel => exact ⟨_, (t205), (t199), (t200), (t201), (t202), (.slice Ao41 t202.length co41), (zb1), H', ⟨zb15⟩, ⟨by (with_reducible repeat (first | apply Kd.R_alloc | apply Kd.R_drewN | apply Kd.R_drew)); exact Kd.R_mono (Kd.R_far (p := ⟨gb194, 1, none⟩) (Kd.R_far (p := ⟨gb194, 0, none⟩) (Kd.R_types HO_180001.out BK194.out (by decide)) (fun _ hk => hk.2) (.int .i64 t201)) (fun _ hk => hk.2) (.slice Ao41 t202.length co41)) (fun _ hk => hk.1.2)⟩, ⟨by (with_reducible repeat (first | apply Kd.R_alloc | apply Kd.R_drewN | apply Kd.R_drew)); exact Kd.R_mono (Kd.R_far (p := ⟨gb194, 1, none⟩) (Kd.R_far (p := ⟨gb194, 0, none⟩) (Kd.R_types HO204.out BK194.out (by decide)) (fun _ hk => hk.2) (.int .i64 t201)) (fun _ hk => hk.2) (.slice Ao41 t202.length co41)) (fun _ hk => hk.1.1.2)⟩, ⟨zb73⟩, ⟨zb74⟩, ⟨by (with_reducible repeat (first | refine blk_drewN ?_ _ | refine blk_drew ?_ | refine blk_alloc ?_ _)); refine blk_put (cs := #[.int .i64 t201, .slice Ao31 t190.length co31]) ?_ 1 _ rfl; (with_reducible repeat (first | refine blk_drewN ?_ _ | refine blk_drew ?_ | refine blk_alloc ?_ _)); refine blk_put (cs := #[.int .i64 t189, .slice Ao31 t190.length co31]) ?_ 0 _ rfl; (with_reducible repeat (first | refine blk_drewN ?_ _ | refine blk_drew ?_ | refine blk_alloc ?_ _)); exact BK194.out⟩, ⟨zb68⟩, ⟨zb69⟩, ⟨zb70⟩⟩
     ·replace c34 := Bool.eq_false_iff.mpr c34
      subst c34
      have H1 : (spec_l01Cur_marks.j1 k1 x4_1 t193 s0_0 t196 t197 x180000_1 x180001_1 t189 t190) = some (r1, r2, r3, r4) := by rw [if_neg (show ¬ (false = true) by decide)] at H; exact H
      clear H
      have H := H1
      clear H1
      have H' := Aside0.mk H
      clear H
      go_wp2
      go_meet
      case rel => exact ⟨_, (t193), (t196), (t197), (t189), (t190), (.slice Ao31 t190.length co31), (zb1), H', ⟨zb15⟩, ⟨zb62⟩, ⟨zb64⟩, ⟨zb51⟩, ⟨zb60⟩, ⟨zb67⟩, ⟨zb68⟩, ⟨zb69⟩, ⟨zb70⟩⟩
    case rest =>
     clear HC19
     try clear p2
     try clear c3
     try clear c6
     try clear c9
     try clear c32
     try clear c34
     obtain ⟨kq, x7_18, x1001_18, x1002_18, x195000_18, x195001_18, u195001, rfl, HA, HJ18, HO_180001, HO_195001, BK171, BK179, BK194, HI0, HK, HB⟩ := hcut
     cases kq with
     | zero => exact absurd HA.out (by simp [spec_l01Cur_marks.j1])
     | succ kj18 =>
      have H := HA.out
      clear HA
      simp only [spec_l01Cur_marks.j1] at H
      by_cases c43 : x7_18 = 0
      ·rw [if_pos c43] at H
       have c43b0 : (x7_18 == 0) = true := beq_iff_eq.mpr c43
       have c43b1 : (x7_18 != 0) = false := bne_eq_false_iff_eq.mpr c43
       clear c43
       have H' := Aside0.mk H
       clear H
       have hnb44 := NB194_171.out
       have hnc44 := NB171_194.out
       have hnb45 := NB194_179.out
       have hnc45 := NB179_194.out
       have hnb46 := NB194_0.out
       have hnc46 := NB0_194.out
       have hcz47_0 : wc.cell? ⟨gb194, 0, none⟩ = some (.int .i64 x195000_18) := (blk_cell BK194.out 0).trans rfl
       have hcz47_1 : wc.cell? ⟨gb194, 1, none⟩ = some (u195001) := (blk_cell BK194.out 1).trans rfl
       have hfz47_0 := blk_frozen BK194.out 0
       have hfz47_1 := blk_frozen BK194.out 1
       have hnb48 := NB179_171.out
       have hnc48 := NB171_179.out
       have hnb49 := NB179_0.out
       have hnc49 := NB0_179.out
       have hcz50_0 : wc.cell? ⟨gb179, 0, none⟩ = some (.int .i64 x180000_1) := (blk_cell BK179.out 0).trans rfl
       have hcz50_1 : wc.cell? ⟨gb179, 1, none⟩ = some (.slice Ao23 x180001_1.length co23) := (blk_cell BK179.out 1).trans rfl
       have hfz50_0 := blk_frozen BK179.out 0
       have hfz50_1 := blk_frozen BK179.out 1
       obtain ⟨Ao51, co51, eo51⟩ := Kd.R_slice HO_195001.out
       subst eo51
       go_wp2
       go_roundg kj18
       case measure => have := HK1.out; have := HJ18.out; omega
       case rel => exact ⟨(wrap64 (x4_1 - 1)), (x1001_18), (x1002_18), (x195000_18), (x195001_18), (.slice Ao51 x195001_18.length co51), (zb1), H', ⟨by have := HK1.out; have := HJ18.out; omega⟩, ⟨by (with_reducible repeat (first | apply Kd.R_alloc | apply Kd.R_drewN | apply Kd.R_drew)); exact Kd.R_mono (Kd.R_far (p := ⟨gb179, 1, none⟩) (Kd.R_far (p := ⟨gb179, 0, none⟩) (Kd.R_types HO_195001.out BK179.out (by decide)) (fun _ hk => hk.2) (.int .i64 x195000_18)) (fun _ hk => hk.2) (.slice Ao51 x195001_18.length co51)) (fun _ hk => trivial)⟩, ⟨zb57⟩, ⟨by (with_reducible repeat (first | refine blk_drewN ?_ _ | refine blk_drew ?_ | refine blk_alloc ?_ _)); refine blk_put (cs := #[.int .i64 x195000_18, .slice Ao23 x180001_1.length co23]) ?_ 1 _ rfl; (with_reducible repeat (first | refine blk_drewN ?_ _ | refine blk_drew ?_ | refine blk_alloc ?_ _)); refine blk_put (cs := #[.int .i64 x180000_1, .slice Ao23 x180001_1.length co23]) ?_ 0 _ rfl; (with_reducible repeat (first | refine blk_drewN ?_ _ | refine blk_drew ?_ | refine blk_alloc ?_ _)); exact BK179.out⟩, ⟨zb68⟩, ⟨zb69⟩, ⟨zb70⟩⟩
      ·rw [if_neg c43] at H
       have c43b0 : (x7_18 == 0) = false := beq_eq_false_iff_ne.mpr c43
       have c43b1 : (x7_18 != 0) = true := bne_iff_ne.mpr c43
       have H' := Aside0.mk H
       clear H
       go_wp2
       go_roundg kj18
       case measure => have := HK1.out; have := HJ18.out; omega
       case rel => exact ⟨(wrap64 (x4_1 - 1)), (x1001_18), (x1002_18), (x180000_1), (x180001_1), (.slice Ao23 x180001_1.length co23), (zb1), H', ⟨by have := HK1.out; have := HJ18.out; omega⟩, ⟨by (with_reducible repeat (first | apply Kd.R_alloc | apply Kd.R_drewN | apply Kd.R_drew)); exact Kd.R_mono HO_180001.out (fun _ hk => trivial)⟩, ⟨zb51⟩, ⟨zb60⟩, ⟨zb68⟩, ⟨zb69⟩, ⟨zb70⟩⟩
   ·rw [if_neg c14] at H
    have c14b0 : decide (0 < x4_1) = false := decide_eq_false c14
    clear c14
    simp only [Option.some.injEq, Prod.mk.injEq] at H
    obtain ⟨rfl, rfl, rfl, rfl⟩ := H
    have hnb52 := NB179_171.out
    have hnc52 := NB171_179.out
    have hnb53 := NB179_0.out
    have hnc53 := NB0_179.out
    have hcz54_0 : wr.cell? ⟨gb179, 0, none⟩ = some (.int .i64 x180000_1) := (blk_cell BK179.out 0).trans rfl
    have hcz54_1 : wr.cell? ⟨gb179, 1, none⟩ = some (u180001) := (blk_cell BK179.out 1).trans rfl
    have hfz54_0 := blk_frozen BK179.out 0
    have hfz54_1 := blk_frozen BK179.out 1
    have hnb55 := NB171_0.out
    have hnc55 := NB0_171.out
    have hcz56_0 : wr.cell? ⟨gb171, 0, none⟩ = some (.int .i64 0) := (blk_cell BK171.out 0).trans rfl
    have hcz56_1 : wr.cell? ⟨gb171, 1, none⟩ = some (.slice none 0 0) := (blk_cell BK171.out 1).trans rfl
    have hfz56_0 := blk_frozen BK171.out 0
    have hfz56_1 := blk_frozen BK171.out 1
    obtain ⟨Ao57, co57, eo57⟩ := Kd.R_slice HO_180001.out
    subst eo57
    go_wp2
    refine bodyPost_ret (results_cell_row rfl _ _ gb171 53 #[.int .i64 x180000_1, .slice Ao57 x180001_1.length co57] (0, 0) _ rfl (by (with_reducible repeat (first | refine blk_drewN ?_ _ | refine blk_drew ?_ | refine blk_alloc ?_ _)); refine blk_put (cs := #[.int .i64 x180000_1, .slice none 0 0]) ?_ 1 _ rfl; (with_reducible repeat (first | refine blk_drewN ?_ _ | refine blk_drew ?_ | refine blk_alloc ?_ _)); refine blk_put (cs := #[.int .i64 0, .slice none 0 0]) ?_ 0 _ rfl; (with_reducible repeat (first | refine blk_drewN ?_ _ | refine blk_drew ?_ | refine blk_alloc ?_ _)); exact BK171.out) Try.underlying53 rfl (by kernel_rfl)) rfl ?_
    exact ⟨_, zb5, by (with_reducible repeat (first | apply Kd.R_alloc | apply Kd.R_drewN | apply Kd.R_drew)); exact Kd.R_mono (Kd.R_far (p := ⟨gb171, 1, none⟩) (Kd.R_far (p := ⟨gb171, 0, none⟩) (Kd.R_types HO_180001.out BK171.out (by decide)) (fun _ hk => hk.2) (.int .i64 x180000_1)) (fun _ hk => hk.2) (.slice Ao57 x180001_1.length co57)) (fun _ hk => trivial), zb58, zb61, zb59⟩

end Go.Proofs.Ytahnodgbfonlhaa.PFnMarks
