/- Contracts of the functions that the law FnMarks reaches, part 12: each says that the call returns what the Lean function of the same name computes. Made by a program of this session. -/
import Derived.Test.YtahnodgbfonlhaaQFnMarksx0
import Derived.Test.YtahnodgbfonlhaaQFnMarksx1
import Derived.Test.YtahnodgbfonlhaaQFnMarksx2
import Derived.Test.YtahnodgbfonlhaaQFnMarksx4
import Derived.Test.YtahnodgbfonlhaaQFnMarksx7
import Derived.Test.YtahnodgbfonlhaaQFnMarksx9
import Derived.Test.YtahnodgbfonlhaaQFnMarksx10
import Derived.Test.YtahnodgbfonlhaaQFnMarksx11
namespace Go.Proofs.Ytahnodgbfonlhaa.PFnMarks
open Go.RowKit Go.Proofs.YtahnodgbfonlhaaW.PrintWords Go.Proofs.YtahnodgbfonlhaaW.PrintLast Go.Proofs.YtahnodgbfonlhaaW.PrintMore
attribute [local go_sem] max2_int min2_int max_two min_two max_three min_three max_four min_four   -- for this text's walks alone
set_option linter.unusedVariables false
set_option linter.unusedSimpArgs false

/-! ### laws_FnMarks: function 7 -/
mutual
def laws_FnMarks.l0 : Nat → List Int → Int → Int → List (S63) → Option (Bool)
 | 0, _, _, _, _ => none
 | k + 1, x0, x6, x360000, x360001 => if x6 < (mn 20 (x0.length : Int)) then ((laws_pick.f k x0 x6 (wrap64 ((x360001.length : Int) + 1))).bind fun t363 => ((laws_pick.f k x0 (wrap64 (x6 + 2)) 80).bind fun t364 => ((impl_MarkSet.f k x360000 x360001 t363 t364).bind fun bt365 => ((laws_pick.f k x0 (wrap64 (x6 + 2)) 80).bind fun t371 => ((spec_MarkSet.f k x360000 x360001 t363 t371).bind fun bt372 => ((laws_pick.f k x0 (wrap64 (x6 + 1)) 3).bind fun t378 => (if t378 = 0 then ((laws_pick.f k x0 (wrap64 (x6 + 4)) 2).bind fun t379 => ((impl_MarkIdle.f k x360000 x360001 t363 (t379 == 0)).bind fun bt380 => ((laws_pick.f k x0 (wrap64 (x6 + 4)) 2).bind fun t385 => ((spec_MarkIdle.f k x360000 x360001 t363 (t385 == 0)).bind fun bt386 => (laws_FnMarks.j1 k x0 x6 t363 bt380.2.2 bt386.2.2 x360000 x360001 bt380.1 bt380.2.1 bt386.1 bt386.2.1))))) else (laws_FnMarks.j1 k x0 x6 t363 bt365.2.2 bt372.2.2 x360000 x360001 bt365.1 bt365.2.1 bt372.1 bt372.2.1)))))))) else (some true)
def laws_FnMarks.j1 : Nat → List Int → Int → Int → Int → Int → Int → List (S63) → Int → List (S63) → Int → List (S63) → Option (Bool)
 | 0, _, _, _, _, _, _, _, _, _, _, _ => none
 | k + 1, x0, x6, x7, x9, x11, x360000, x360001, x371000, x371001, x378000, x378001 => if x9 = x11 then (laws_FnMarks.j2 k x0 x6 x7 x9 (x371000 != x378000) x360000 x360001 x371000 x371001) else (laws_FnMarks.j2 k x0 x6 x7 x9 true x360000 x360001 x371000 x371001)
def laws_FnMarks.j2 : Nat → List Int → Int → Int → Int → Bool → Int → List (S63) → Int → List (S63) → Option (Bool)
 | 0, _, _, _, _, _, _, _, _, _ => none
 | k + 1, x0, x6, x7, x9, x98, x360000, x360001, x371000, x371001 => if x98 = true then (some false) else (if x9 = 0 then (if x371000 < x360000 then (laws_FnMarks.j3 k x0 x6 true x371000 x371001) else ((impl_MarksLeast.f k x371000 x371001).bind fun t391 => (if x371000 < t391 then (laws_FnMarks.j3 k x0 x6 true x371000 x371001) else ((spec_MarksOk.f k x371000 x371001).bind fun t392 => (if t392 = true then (if 0 ≤ x7 then (if x7 < (x371001.length : Int) then (if x7 < (x360001.length : Int) then (if ((rd_T63 x371001 x7).f0) < ((rd_T63 x360001 x7).f0) then (laws_FnMarks.j3 k x0 x6 true x371000 x371001) else ((impl_MarksLate.f k x371000 x371001 x371000).bind fun t395 => (if t395 = true then (laws_FnMarks.j3 k x0 x6 true x371000 x371001) else (if x371000 > 0 then ((impl_MarksLate.f k x371000 x371001 (wrap64 (x371000 - 1))).bind fun t396 => (laws_FnMarks.j3 k x0 x6 (!t396) x371000 x371001)) else (laws_FnMarks.j3 k x0 x6 false x371000 x371001))))) else (none)) else (none)) else (none)) else (laws_FnMarks.j3 k x0 x6 true x371000 x371001)))))) else (laws_FnMarks.l0 k x0 (wrap64 (x6 + 1)) x360000 x360001))
def laws_FnMarks.j3 : Nat → List Int → Int → Bool → Int → List (S63) → Option (Bool)
 | 0, _, _, _, _, _ => none
 | k + 1, x0, x6, x151, x371000, x371001 => if x151 = true then (some false) else (laws_FnMarks.l0 k x0 (wrap64 (x6 + 1)) x371000 x371001)
end
def laws_FnMarks.f (k : Nat) (l0 : List Int) : Option (Bool) := (laws_big.f l0).bind fun t352 => (if t352 = true then (some true) else ((spec_DrawMarkSet.f k l0).bind fun bt353 => ((spec_MarksOk.f k bt353.1 bt353.2.1).bind fun t360 => (if t360 = true then (laws_FnMarks.l0 k l0 0 bt353.1 bt353.2.1) else ((impl_MarksOk.f k bt353.1 bt353.2.1).bind fun t361 => ((spec_MarksOk.f k bt353.1 bt353.2.1).bind fun t362 => (some (t361 == t362))))))))
def laws_FnMarks.T10 : Bool × List (List Nat × List Nat) := (true, [([], []), ([], []), ([], []), ([], []), ([3], [3]), ([2, 4], [2, 4]), ([0, 1, 5, 5], [0, 1, 5]), ([6], [6]), ([7], [7]), ([7], [7]), ([], []), ([10, 8, 6, 0, 1, 2, 3, 4, 5, 6, 7, 8, 10], [8, 10]), ([9, 11, 0, 1, 2, 3, 4, 5, 6, 7, 8, 9, 10, 11], [9])])
def laws_FnMarks.B10 : List Nat := [0, 0, 0, 0, 8, 28, 63, 127, 255, 255, 0, 1535, 4095]
theorem laws_FnMarks.tab10 : rtab .any (opsOf Try.f7 10) = laws_FnMarks.T10 := by kernel_rfl
theorem laws_FnMarks.bits10 : waitsOk laws_FnMarks.T10.2 laws_FnMarks.B10 = true := by kernel_rfl
def laws_FnMarks.T11 : Bool × List (List Nat × List Nat) := (true, [([], []), ([], []), ([], []), ([], []), ([3], [3]), ([2, 4], [2, 4]), ([0, 1, 5, 5], [0, 1, 5]), ([6], [6]), ([7], [7]), ([7], [7]), ([], []), ([10, 8, 6, 0, 1, 2, 3, 4, 5, 6, 7, 8, 10], [8, 10]), ([9, 11, 0, 1, 2, 3, 4, 5, 6, 7, 8, 9, 10, 11], [9])])
def laws_FnMarks.B11 : List Nat := [0, 0, 0, 0, 8, 28, 63, 127, 255, 255, 0, 1535, 4095]
theorem laws_FnMarks.tab11 : rtab .any (opsOf Try.f7 11) = laws_FnMarks.T11 := by kernel_rfl
theorem laws_FnMarks.bits11 : waitsOk laws_FnMarks.T11.2 laws_FnMarks.B11 = true := by kernel_rfl
def laws_FnMarks.T13 : Bool × List (List Nat × List Nat) := (true, [([], []), ([], []), ([], []), ([], []), ([3], [3]), ([2, 4], [2, 4]), ([5], [5]), ([0, 1, 6, 5], [0, 1, 6]), ([7], [7]), ([8], [8]), ([8], [8]), ([9, 7, 0, 1, 2, 3, 4, 5, 6, 7, 8, 9], [9]), ([10, 11, 0, 1, 2, 3, 4, 5, 6, 7, 8, 9, 10, 11], [10])])
def laws_FnMarks.B13 : List Nat := [0, 0, 0, 0, 8, 28, 60, 127, 255, 511, 511, 1023, 4095]
theorem laws_FnMarks.tab13 : rtab .any (opsOf Try.f7 13) = laws_FnMarks.T13 := by kernel_rfl
theorem laws_FnMarks.bits13 : waitsOk laws_FnMarks.T13.2 laws_FnMarks.B13 = true := by kernel_rfl
def laws_FnMarks.T14 : Bool × List (List Nat × List Nat) := (true, [([], []), ([], []), ([], []), ([], []), ([3], [3]), ([2, 4], [2, 4]), ([5], [5]), ([0, 1, 6, 5], [0, 1, 6]), ([7], [7]), ([8], [8]), ([8], [8]), ([9, 7, 0, 1, 2, 3, 4, 5, 6, 7, 8, 9], [9]), ([10, 11, 0, 1, 2, 3, 4, 5, 6, 7, 8, 9, 10, 11], [10])])
def laws_FnMarks.B14 : List Nat := [0, 0, 0, 0, 8, 28, 60, 127, 255, 511, 511, 1023, 4095]
theorem laws_FnMarks.tab14 : rtab .any (opsOf Try.f7 14) = laws_FnMarks.T14 := by kernel_rfl
theorem laws_FnMarks.bits14 : waitsOk laws_FnMarks.T14.2 laws_FnMarks.B14 = true := by kernel_rfl
def laws_FnMarks.T18 : Bool × List (List Nat × List Nat) := (true, [([], []), ([0], [0]), ([], []), ([2], [2]), ([1, 3], [1, 3]), ([4], [4]), ([5], [5]), ([6, 5], [5, 6]), ([5], [5]), ([8, 5, 5], [5, 8]), ([7, 9, 5], [5, 7, 9]), ([5, 10], [5, 10]), ([11, 9], [11]), ([12], [12]), ([13, 12, 12], [12, 13]), ([14, 12], [12, 14]), ([12, 15], [12, 15]), ([16, 14], [16]), ([17], [17]), ([18, 17], [17, 18]), ([17], [17]), ([19, 20, 17], [17, 19, 20]), ([21, 17], [17, 21]), ([22, 17], [17, 22]), ([17], [17]), ([24, 17], [17, 24]), ([17], [17]), ([25, 26, 17], [17, 25, 26]), ([27, 17], [17, 27]), ([28, 17], [17, 28]), ([23, 29, 17], [17, 23, 29]), ([17, 30], [17, 30]), ([31, 17], [31]), ([32], [32]), ([32], [32]), ([34, 32], [32, 34]), ([33, 35, 32, 32], [32, 33, 35]), ([32, 36], [32, 36]), ([37, 36], [37]), ([38], [38]), ([39, 38], [38, 39]), ([40, 38], [38, 40]), ([41, 38, 38], [38, 41]), ([42], [42]), ([42], [42]), ([44, 42], [42, 44]), ([45, 42], [42, 45]), ([43, 46, 42, 42], [42, 43, 46]), ([47, 42], [42, 47]), ([42, 48, 38], [38, 42, 48]), ([38, 49], [38, 49])])
def laws_FnMarks.B18 : List Nat := [0, 1, 0, 4, 15, 31, 63, 127, 63, 319, 1023, 2047, 4095, 8191, 16383, 32767, 65535, 131071, 262143, 524287, 262143, 2097151, 4194303, 8388607, 262143, 17039359, 262143, 117702655, 251920383, 520355839, 1073741823, 2147483647, 4294967295, 8589934591, 8589934591, 25769803775, 68719476735, 137438953471, 274877906943, 549755813887, 1099511627775, 2199023255551, 4398046511103, 8796093022207, 8796093022207, 26388279066623, 61572651155455, 140737488355327, 281474976710655, 562949953421311, 1125899906842623]
theorem laws_FnMarks.tab18 : rtab .any (opsOf Try.f7 18) = laws_FnMarks.T18 := by kernel_rfl
theorem laws_FnMarks.bits18 : waitsOk laws_FnMarks.T18.2 laws_FnMarks.B18 = true := by kernel_rfl
set_option maxHeartbeats 8000000 in
set_option maxRecDepth 100000 in
theorem laws_FnMarks.calls (k : Nat) (A0 : Option Addr) (c0 : Nat) (l0 : List Int) (r : Bool) (w : World) (hr0 : Kd.C (Kd.int .u8) w A0 l0.length l0) (hc0 : l0.length ≤ c0) (h : laws_FnMarks.f k l0 = some r) :
  Calls Try.prog 7 #[.slice A0 l0.length c0] w fun e w' => e = .returned (.bool r) ∧ Below w.heap.size w w' := by
 have hu53 := Try.underlying53
 have HR0 := Aside0.mk hr0
 have HC0 := Aside0.mk hc0
 clear hr0 hc0
 have HB := Aside0.mk (Below.refl w.heap.size w)
 have H : ((laws_big.f l0).bind fun t352 => (if t352 = true then (some true) else ((spec_DrawMarkSet.f k l0).bind fun bt353 => ((spec_MarksOk.f k bt353.1 bt353.2.1).bind fun t360 => (if t360 = true then (laws_FnMarks.l0 k l0 0 bt353.1 bt353.2.1) else ((impl_MarksOk.f k bt353.1 bt353.2.1).bind fun t361 => ((spec_MarksOk.f k bt353.1 bt353.2.1).bind fun t362 => (some (t361 == t362))))))))) = some r := h
 clear h
 replace H := Option.bind_eq_some_iff.mp H
 obtain ⟨t352, A20, H⟩ := H
 replace H : (if t352 = true then (some true) else ((spec_DrawMarkSet.f k l0).bind fun bt353 => ((spec_MarksOk.f k bt353.1 bt353.2.1).bind fun t360 => (if t360 = true then (laws_FnMarks.l0 k l0 0 bt353.1 bt353.2.1) else ((impl_MarksOk.f k bt353.1 bt353.2.1).bind fun t361 => ((spec_MarksOk.f k bt353.1 bt353.2.1).bind fun t362 => (some (t361 == t362)))))))) = some r := H
 have A2 := Aside0.mk A20
 clear A20
 by_cases c3 : t352 = true
 ·subst c3
  have H1 : (some true) = some r := by rw [if_pos rfl] at H; exact H
  clear H
  have H := H1
  clear H1
  obtain rfl := Option.some.inj H
  go_enter Try.func7, Try.ntmps7
  go_wp2_with (first | ((with_reducible refine gate_callee (f := 14) rfl ?_); refine goesL_ (some 13) rfl rfl Try.func14 (by kernel_rfl) rfl #[.slice A0 l0.length c0] rfl (zb10) ?_; (with_reducible refine (laws_big.calls _ _ l0 true _ ?side1 ?side2 A2.out).mono ?_); (case side1 => exact zb150); (case side2 => exact HC0.out); rintro e w' ⟨rfl, ⟨nd, rfl⟩⟩; refine ⟨_, rfl, ?_⟩))
  go_ret
  exact ⟨zb5, zb3⟩
 ·replace c3 := Bool.eq_false_iff.mpr c3
  subst c3
  have H1 : ((spec_DrawMarkSet.f k l0).bind fun bt353 => ((spec_MarksOk.f k bt353.1 bt353.2.1).bind fun t360 => (if t360 = true then (laws_FnMarks.l0 k l0 0 bt353.1 bt353.2.1) else ((impl_MarksOk.f k bt353.1 bt353.2.1).bind fun t361 => ((spec_MarksOk.f k bt353.1 bt353.2.1).bind fun t362 => (some (t361 == t362))))))) = some r := by rw [if_neg (show ¬ (false = true) by decide)] at H; exact H
  clear H
  have H := H1
  clear H1
  replace H := Option.bind_eq_some_iff.mp H
  obtain ⟨⟨t353, t354, t357, t358⟩, A40, H⟩ := H
  replace H : ((spec_MarksOk.f k t353 t354).bind fun t360 => (if t360 = true then (laws_FnMarks.l0 k l0 0 t353 t354) else ((impl_MarksOk.f k t353 t354).bind fun t361 => ((spec_MarksOk.f k t353 t354).bind fun t362 => (some (t361 == t362)))))) = some r := H
  have A4 := Aside0.mk A40
  clear A40
  replace H := Option.bind_eq_some_iff.mp H
  obtain ⟨t360, A50, H⟩ := H
  replace H : (if t360 = true then (laws_FnMarks.l0 k l0 0 t353 t354) else ((impl_MarksOk.f k t353 t354).bind fun t361 => ((spec_MarksOk.f k t353 t354).bind fun t362 => (some (t361 == t362))))) = some r := H
  have A5 := Aside0.mk A50
  clear A50
  by_cases c6 : t360 = true
  ·subst c6
   have H1 : (laws_FnMarks.l0 k l0 0 t353 t354) = some r := by rw [if_pos rfl] at H; exact H
   clear H
   have H := H1
   clear H1
   have H' := Aside0.mk H
   clear H
   go_enter Try.func7, Try.ntmps7
   go_wp2_with (first | ((with_reducible refine gate_callee (f := 14) rfl ?_); refine goesL_ (some 13) rfl rfl Try.func14 (by kernel_rfl) rfl #[.slice A0 l0.length c0] rfl (zb10) ?_; (with_reducible refine (laws_big.calls _ _ l0 false _ ?side1 ?side2 A2.out).mono ?_); (case side1 => exact zb150); (case side2 => exact HC0.out); rintro e w' ⟨rfl, ⟨nd, rfl⟩⟩; refine ⟨_, rfl, ?_⟩) | ((with_reducible refine gate_callee (f := 27) rfl ?_); refine goesL_ (some 16) rfl rfl Try.func27 (by kernel_rfl) rfl #[.slice A0 l0.length c0] rfl (zb10) ?_; (with_reducible refine (spec_DrawMarkSet.calls k _ _ l0 t353 t354 t357 t358 _ ?side1 ?side2 A4.out).mono ?_); (case side1 => exact zb150); (case side2 => exact HC0.out); rintro e w7 ⟨v355, rfl, ho0, hb⟩; refine ⟨_, rfl, ?_⟩; have n0_ := Aside0.mk (Kd.R_lower ho0 (below_size (zb3))); have n1_ := Aside0.mk (below_step (zb3) hb); clear HB; have HO356 := n0_; have HB := n1_; clear n0_ n1_; (try clear hb); (try clear hb2); (try clear hk); (try clear hi); (try clear ho0)) | ((with_reducible refine gate_dst (N := 3) rfl ?_); refine box_event ?hg (N := 3) ?hd (cs := #[.int .i64 0, .slice none 0 0]) (t := 53) ?hr ?_; (case hd => rfl); (case hg => rfl); (case hr => first | (go_simp; done) | (go_simp; rfl)); intro gb359 hg w8 hbox hb; have n0_ := Aside0.mk (Kd.R_below (zb151) hb); have n1_ := Aside0.mk (below_step (zb3) hb); have n2_ := Aside0.mk (hbox); have n3_ := Aside0.mk ((by rw [hg]; exact (below_size (zb3)) : w.heap.size ≤ gb359)); have n4_ := Aside0.mk ((by rw [hg]; exact (below_size (zb3)) : w.heap.size ≤ gb359)); clear HO356; clear HB; have HO356 := n0_; have HB := n1_; have BK359 := n2_; have GW359 := n3_; have GE359 := n4_; clear n0_ n1_ n2_ n3_ n4_; clear hb hbox hg; have hcz9_0 : w8.cell? ⟨gb359, 0, none⟩ = some (.int .i64 0) := (blk_cell BK359.out 0).trans rfl; have hcz9_1 : w8.cell? ⟨gb359, 1, none⟩ = some (.slice none 0 0) := (blk_cell BK359.out 1).trans rfl; have hfz9_0 := blk_frozen BK359.out 0; have hfz9_1 := blk_frozen BK359.out 1; obtain ⟨Ao10, co10, eo10⟩ := Kd.R_slice HO356.out; subst eo10) | ((with_reducible refine gate_callee (f := 28) rfl ?_); refine goesL_ (some 21) rfl rfl Try.func28 (by kernel_rfl) rfl #[.agg #[.int .i64 t353, .slice Ao10 t354.length co10]] rfl (zb10) ?_; (with_reducible refine (spec_MarksOk.calls k t353 _ _ t354 true _ ?side1 ?side2 A5.out).mono ?_); (case side1 => refine (Kd.R_reads' (e := 63) (base := w.heap.size) (ok := fun k_ => True) (n := t354.length) (c := co10) ?_).2.2; exact (zb152)); (case side2 => exact (Kd.R_reads' HO356.out).2.1); rintro e w11 ⟨rfl, hb⟩; refine ⟨_, rfl, ?_⟩; have n0_ := Aside0.mk (Kd.R_below (zb152) hb); have n1_ := Aside0.mk (blk_below (g := gb359) (o := .cells #[.int .i64 t353, .slice Ao10 t354.length co10] 53 (0, 0)) (zb153) hb); have n2_ := Aside0.mk (below_step (zb154) hb); clear HO356; clear BK359; clear HB; have HO356 := n0_; have BK359 := n1_; have HB := n2_; clear n0_ n1_ n2_; (try clear hb); (try clear hb2); (try clear hk); (try clear hi)))
   go_loopg [6] k (fun kq v6 w' => ∃ (x6_1 : Int) (x360000_1 : Int) (x360001_1 : List (S63)) (u360001 : Value), v6 = .int .i64 x6_1 ∧ Aside0 (laws_FnMarks.l0 kq l0 x6_1 x360000_1 x360001_1 = some r) ∧ Aside0 (kq ≤ k) ∧ Aside0 (Kd.R k63 63 w' w.heap.size (fun _ => True) u360001 x360001_1) ∧ Aside0 (w'.heap[gb359]? = some (.cells #[.int .i64 x360000_1, u360001] 53 (0, 0))) ∧ Aside0 (Below w.heap.size w w'))
   case atStart => exact ⟨(0), (t353), (t354), (.slice Ao10 t354.length co10), (zb1), H', ⟨Nat.le_refl _⟩, ⟨zb151⟩, ⟨zb155⟩, ⟨zb154⟩⟩
   case round =>
    clear H'
    try clear c1
    try clear c2
    try clear p2
    try clear c3
    try clear c6
    try clear c7
    try clear hcz9_0
    try clear hcz9_1
    try clear hfz9_0
    try clear hfz9_1
    obtain ⟨x6_1, x360000_1, x360001_1, u360001, rfl, HA, HK1, HO_360001, BK359, HB⟩ := hrel
    cases gk with
    | zero => exact absurd HA.out (by simp [laws_FnMarks.l0])
    | succ k1 =>
     have H := HA.out
     clear HA
     simp only [laws_FnMarks.l0] at H
     obtain ⟨ji12, hji12⟩ : ∃ j_ : Int, (mn 20 (l0.length : Int)) = j_ := ⟨_, rfl⟩
     replace H : (if x6_1 < (ji12) then ((laws_pick.f k1 l0 x6_1 (wrap64 ((x360001_1.length : Int) + 1))).bind fun t363 => ((laws_pick.f k1 l0 (wrap64 (x6_1 + 2)) 80).bind fun t364 => ((impl_MarkSet.f k1 x360000_1 x360001_1 t363 t364).bind fun bt365 => ((laws_pick.f k1 l0 (wrap64 (x6_1 + 2)) 80).bind fun t371 => ((spec_MarkSet.f k1 x360000_1 x360001_1 t363 t371).bind fun bt372 => ((laws_pick.f k1 l0 (wrap64 (x6_1 + 1)) 3).bind fun t378 => (if t378 = 0 then ((laws_pick.f k1 l0 (wrap64 (x6_1 + 4)) 2).bind fun t379 => ((impl_MarkIdle.f k1 x360000_1 x360001_1 t363 (t379 == 0)).bind fun bt380 => ((laws_pick.f k1 l0 (wrap64 (x6_1 + 4)) 2).bind fun t385 => ((spec_MarkIdle.f k1 x360000_1 x360001_1 t363 (t385 == 0)).bind fun bt386 => (laws_FnMarks.j1 k1 l0 x6_1 t363 bt380.2.2 bt386.2.2 x360000_1 x360001_1 bt380.1 bt380.2.1 bt386.1 bt386.2.1))))) else (laws_FnMarks.j1 k1 l0 x6_1 t363 bt365.2.2 bt372.2.2 x360000_1 x360001_1 bt365.1 bt365.2.1 bt372.1 bt372.2.1)))))))) else (some true)) = some r := by first | (rw [hji12] at H; exact H) | (simp only [hji12] at H ⊢; exact H)
     have hji12_ : (if (l0.length : Int) < 20 then (l0.length : Int) else 20) = ji12 := hji12
     by_cases c13 : x6_1 < (ji12)
     ·as_aux_lemma =>
      rw [if_pos c13] at H
      have c13b0 : decide (x6_1 < (ji12)) = true := decide_eq_true c13
      clear c13
      replace H := Option.bind_eq_some_iff.mp H
      obtain ⟨t363, A140, H⟩ := H
      replace H : ((laws_pick.f k1 l0 (wrap64 (x6_1 + 2)) 80).bind fun t364 => ((impl_MarkSet.f k1 x360000_1 x360001_1 t363 t364).bind fun bt365 => ((laws_pick.f k1 l0 (wrap64 (x6_1 + 2)) 80).bind fun t371 => ((spec_MarkSet.f k1 x360000_1 x360001_1 t363 t371).bind fun bt372 => ((laws_pick.f k1 l0 (wrap64 (x6_1 + 1)) 3).bind fun t378 => (if t378 = 0 then ((laws_pick.f k1 l0 (wrap64 (x6_1 + 4)) 2).bind fun t379 => ((impl_MarkIdle.f k1 x360000_1 x360001_1 t363 (t379 == 0)).bind fun bt380 => ((laws_pick.f k1 l0 (wrap64 (x6_1 + 4)) 2).bind fun t385 => ((spec_MarkIdle.f k1 x360000_1 x360001_1 t363 (t385 == 0)).bind fun bt386 => (laws_FnMarks.j1 k1 l0 x6_1 t363 bt380.2.2 bt386.2.2 x360000_1 x360001_1 bt380.1 bt380.2.1 bt386.1 bt386.2.1))))) else (laws_FnMarks.j1 k1 l0 x6_1 t363 bt365.2.2 bt372.2.2 x360000_1 x360001_1 bt365.1 bt365.2.1 bt372.1 bt372.2.1))))))) = some r := H
      have A14 := Aside0.mk A140
      clear A140
      replace H := Option.bind_eq_some_iff.mp H
      obtain ⟨t364, A150, H⟩ := H
      replace H : ((impl_MarkSet.f k1 x360000_1 x360001_1 t363 t364).bind fun bt365 => ((laws_pick.f k1 l0 (wrap64 (x6_1 + 2)) 80).bind fun t371 => ((spec_MarkSet.f k1 x360000_1 x360001_1 t363 t371).bind fun bt372 => ((laws_pick.f k1 l0 (wrap64 (x6_1 + 1)) 3).bind fun t378 => (if t378 = 0 then ((laws_pick.f k1 l0 (wrap64 (x6_1 + 4)) 2).bind fun t379 => ((impl_MarkIdle.f k1 x360000_1 x360001_1 t363 (t379 == 0)).bind fun bt380 => ((laws_pick.f k1 l0 (wrap64 (x6_1 + 4)) 2).bind fun t385 => ((spec_MarkIdle.f k1 x360000_1 x360001_1 t363 (t385 == 0)).bind fun bt386 => (laws_FnMarks.j1 k1 l0 x6_1 t363 bt380.2.2 bt386.2.2 x360000_1 x360001_1 bt380.1 bt380.2.1 bt386.1 bt386.2.1))))) else (laws_FnMarks.j1 k1 l0 x6_1 t363 bt365.2.2 bt372.2.2 x360000_1 x360001_1 bt365.1 bt365.2.1 bt372.1 bt372.2.1)))))) = some r := H
      have A15 := Aside0.mk A150
      clear A150
      replace H := Option.bind_eq_some_iff.mp H
      obtain ⟨⟨t365, t366, t369⟩, A160, H⟩ := H
      replace H : ((laws_pick.f k1 l0 (wrap64 (x6_1 + 2)) 80).bind fun t371 => ((spec_MarkSet.f k1 x360000_1 x360001_1 t363 t371).bind fun bt372 => ((laws_pick.f k1 l0 (wrap64 (x6_1 + 1)) 3).bind fun t378 => (if t378 = 0 then ((laws_pick.f k1 l0 (wrap64 (x6_1 + 4)) 2).bind fun t379 => ((impl_MarkIdle.f k1 x360000_1 x360001_1 t363 (t379 == 0)).bind fun bt380 => ((laws_pick.f k1 l0 (wrap64 (x6_1 + 4)) 2).bind fun t385 => ((spec_MarkIdle.f k1 x360000_1 x360001_1 t363 (t385 == 0)).bind fun bt386 => (laws_FnMarks.j1 k1 l0 x6_1 t363 bt380.2.2 bt386.2.2 x360000_1 x360001_1 bt380.1 bt380.2.1 bt386.1 bt386.2.1))))) else (laws_FnMarks.j1 k1 l0 x6_1 t363 t369 bt372.2.2 x360000_1 x360001_1 t365 t366 bt372.1 bt372.2.1))))) = some r := H
      have A16 := Aside0.mk A160
      clear A160
      replace H := Option.bind_eq_some_iff.mp H
      obtain ⟨t371, A170, H⟩ := H
      replace H : ((spec_MarkSet.f k1 x360000_1 x360001_1 t363 t371).bind fun bt372 => ((laws_pick.f k1 l0 (wrap64 (x6_1 + 1)) 3).bind fun t378 => (if t378 = 0 then ((laws_pick.f k1 l0 (wrap64 (x6_1 + 4)) 2).bind fun t379 => ((impl_MarkIdle.f k1 x360000_1 x360001_1 t363 (t379 == 0)).bind fun bt380 => ((laws_pick.f k1 l0 (wrap64 (x6_1 + 4)) 2).bind fun t385 => ((spec_MarkIdle.f k1 x360000_1 x360001_1 t363 (t385 == 0)).bind fun bt386 => (laws_FnMarks.j1 k1 l0 x6_1 t363 bt380.2.2 bt386.2.2 x360000_1 x360001_1 bt380.1 bt380.2.1 bt386.1 bt386.2.1))))) else (laws_FnMarks.j1 k1 l0 x6_1 t363 t369 bt372.2.2 x360000_1 x360001_1 t365 t366 bt372.1 bt372.2.1)))) = some r := H
      have A17 := Aside0.mk A170
      clear A170
      replace H := Option.bind_eq_some_iff.mp H
      obtain ⟨⟨t372, t373, t376⟩, A180, H⟩ := H
      replace H : ((laws_pick.f k1 l0 (wrap64 (x6_1 + 1)) 3).bind fun t378 => (if t378 = 0 then ((laws_pick.f k1 l0 (wrap64 (x6_1 + 4)) 2).bind fun t379 => ((impl_MarkIdle.f k1 x360000_1 x360001_1 t363 (t379 == 0)).bind fun bt380 => ((laws_pick.f k1 l0 (wrap64 (x6_1 + 4)) 2).bind fun t385 => ((spec_MarkIdle.f k1 x360000_1 x360001_1 t363 (t385 == 0)).bind fun bt386 => (laws_FnMarks.j1 k1 l0 x6_1 t363 bt380.2.2 bt386.2.2 x360000_1 x360001_1 bt380.1 bt380.2.1 bt386.1 bt386.2.1))))) else (laws_FnMarks.j1 k1 l0 x6_1 t363 t369 t376 x360000_1 x360001_1 t365 t366 t372 t373))) = some r := H
      have A18 := Aside0.mk A180
      clear A180
      replace H := Option.bind_eq_some_iff.mp H
      obtain ⟨t378, A190, H⟩ := H
      replace H : (if t378 = 0 then ((laws_pick.f k1 l0 (wrap64 (x6_1 + 4)) 2).bind fun t379 => ((impl_MarkIdle.f k1 x360000_1 x360001_1 t363 (t379 == 0)).bind fun bt380 => ((laws_pick.f k1 l0 (wrap64 (x6_1 + 4)) 2).bind fun t385 => ((spec_MarkIdle.f k1 x360000_1 x360001_1 t363 (t385 == 0)).bind fun bt386 => (laws_FnMarks.j1 k1 l0 x6_1 t363 bt380.2.2 bt386.2.2 x360000_1 x360001_1 bt380.1 bt380.2.1 bt386.1 bt386.2.1))))) else (laws_FnMarks.j1 k1 l0 x6_1 t363 t369 t376 x360000_1 x360001_1 t365 t366 t372 t373)) = some r := H
      have A19 := Aside0.mk A190
      clear A190
      have HC20 := Aside0.mk H
      clear H
      have hcz21_0 : wr.cell? ⟨gb359, 0, none⟩ = some (.int .i64 x360000_1) := (blk_cell BK359.out 0).trans rfl
      have hcz21_1 : wr.cell? ⟨gb359, 1, none⟩ = some (u360001) := (blk_cell BK359.out 1).trans rfl
      have hfz21_0 := blk_frozen BK359.out 0
      have hfz21_1 := blk_frozen BK359.out 1
      obtain ⟨Ao22, co22, eo22⟩ := Kd.R_slice HO_360001.out
      subst eo22
      try go_wp2_with (first | ((with_reducible refine gate_callee (f := 30) rfl ?_); refine goesL_ (some 41) rfl rfl Try.func30 (by kernel_rfl) rfl #[.slice A0 l0.length c0, .int .i64 x6_1, .int .i64 (wrap64 ((x360001_1.length : Int) + 1))] rfl (zb10) ?_; (with_reducible refine (laws_pick.calls k1 _ _ l0 x6_1 (wrap64 ((x360001_1.length : Int) + 1)) t363 _ ?side1 ?side2 A14.out).mono ?_); (case side1 => exact zb121); (case side2 => exact HC0.out); rintro e w' ⟨rfl, ⟨nd, rfl⟩⟩; refine ⟨_, rfl, ?_⟩; (try (rw [drewN_self wr]; generalize hq_ : World.drewN wr _ = wr; have n0_ : Aside0 (Kd.R k63 63 wr w.heap.size (fun _ => True) (.slice Ao22 x360001_1.length co22) x360001_1) := ⟨by rw [← hq_]; exact (zb156)⟩; have n1_ : Aside0 (wr.heap[gb359]? = some (.cells #[.int .i64 x360000_1, .slice Ao22 x360001_1.length co22] 53 (0, 0))) := ⟨by rw [← hq_]; exact (zb155)⟩; have n2_ : Aside0 (Below w.heap.size w wr) := ⟨by rw [← hq_]; exact (zb154)⟩; clear HO_360001 BK359 HB hq_; have HO_360001 := n0_; have BK359 := n1_; have HB := n2_; clear n0_ n1_ n2_))))
      have n0_ := Aside0.mk (Kd.R_drew HO_360001.out)
      have n1_ := Aside0.mk (blk_drew BK359.out)
      have n2_ := Aside0.mk (below_drew1 HB.out)
      clear HO_360001
      clear BK359
      clear HB
      have HO_360001 := n0_
      have BK359 := n1_
      have HB := n2_
      clear n0_ n1_ n2_
      refine start_ (n := 13) (S := fun w' => w'.cell? ⟨gb359, 0, none⟩ = some (.int .i64 x360000_1) ∧ w'.cell? ⟨gb359, 1, none⟩ = some (.slice Ao22 x360001_1.length co22)) (ds := []) #[false, false, false, false, false, false, false, false, false, false, false, false, false] (by kernel_rfl) rfl rfl ⟨(blk_cell BK359.out 0).trans rfl, (blk_cell BK359.out 1).trans rfl⟩ (fun hHeld => ?_); refine with_tabW laws_FnMarks.tab10 laws_FnMarks.bits10 (fun HT_ HW_ => ?_)
      generalize wr.drew = w23 at HO_360001 BK359 HB hHeld ⊢
      refine pz 1 44 (bz 13 2) rfl rfl ?_
      refine pz 2 45 (bz 13 6) rfl rfl ?_
      refine pz 3 46 (bz 13 14) rfl rfl ?_
      refine pz 4 47 (bz 13 30) rfl rfl ?_
      refine tz 0 43 (bz 13 31) rfl rfl (Or.inl ⟨by rfl, by rintro w' ⟨s0, s1⟩; go_simp; with_reducible rfl⟩) hHeld ?_
      refine join_ (σ := Value × Nat) 2 #[true, true, true, true, true, true, true, true, true, true, true, false, false] (fun s_ => [(48, .int .i64 t364), (49, .tuple #[.agg #[.int .i64 t365, s_.1], .int .i64 t369]), (8, .pointer (some ⟨s_.2, 0, none⟩)), (42, .tuple #[.agg #[.int .i64 t365, s_.1], .int .i64 t369]), (50, .agg #[.int .i64 t365, s_.1]), (51, .int .i64 t369)]) (fun s_ w' => (w'.cell? ⟨gb359, 0, none⟩ = some (.int .i64 x360000_1) ∧ w'.cell? ⟨gb359, 1, none⟩ = some (.slice Ao22 x360001_1.length co22)) ∧ (Kd.R k63 63 w' w.heap.size (fun k_ => some k_ ≠ (.slice Ao22 x360001_1.length co22 : Value).ownBlock) s_.1 t366) ∧ (Kd.R k63 63 w' w.heap.size (fun k_ => some k_ ≠ (s_.1 : Value).ownBlock) (.slice Ao22 x360001_1.length co22) x360001_1) ∧ (w'.heap[gb359]? = some (.cells #[.int .i64 x360000_1, .slice Ao22 x360001_1.length co22] 53 (0, 0))) ∧ (w'.heap[s_.2]? = some (.cells #[.int .i64 0, .slice none 0 0] 53 (0, 0))) ∧ (w.heap.size ≤ s_.2) ∧ (w.heap.size ≤ s_.2) ∧ (gb359 ≠ s_.2) ∧ (s_.2 ≠ gb359) ∧ (Below w.heap.size w w')) ?_ ?_
      rotate_left
      ·intro hCont
       refine two_ (i := 5) (j := 10) (Ni := some 48) (Nj := some 8) #[true, true, true, true, true, true, false, false, false, false, false, false, false] #[true, true, true, true, true, false, false, false, false, false, true, false, false] rfl rfl rfl rfl (two_of HT_.out (by kernel_rfl)) (by decide) (by decide) (fun K hK => ?_) (fun K hK => ?_)
       ·skip
        refine goes_ Try.func30 (by kernel_rfl) rfl #[.slice A0 l0.length c0, .int .i64 (wrap64 (x6_1 + 2)), .int .i64 80] (by rfl) rfl rfl (zb10) ?_
        with_reducible refine (laws_pick.calls k1 _ _ l0 (wrap64 (x6_1 + 2)) 80 t364 _ ?side1 ?side2 A15.out).mono ?_
        (case side1 => exact zb121)
        (case side2 => exact HC0.out)
        rintro e w' ⟨rfl, ⟨nd, rfl⟩⟩
        refine ⟨_, rfl, ?_⟩
        refine hK.out _ _ ⟨(blk_cell BK359.out 0).trans rfl, (blk_cell BK359.out 1).trans rfl⟩ (fun hHeld => ?_)
        clear hK K
        refine norm_ (a' := ?_) ?_ ?_
        rotate_left
        ·show Act.put _ (some 48) _ = _
         simp only [Act.put, List.setIfInBounds_toArray, List.set_cons_zero, List.set_cons_succ, i64_w, i32_w]
         rfl
        refine two_ (i := 6) (j := 10) (Ni := some 49) (Nj := some 8) #[true, true, true, true, true, true, true, false, false, false, false, false, false] #[true, true, true, true, true, true, false, false, false, false, true, false, false] rfl rfl rfl rfl (two_of HT_.out (by kernel_rfl)) (by decide) (by decide) (fun K hK => ?_) (fun K hK => ?_)
        ·skip
         refine goes_ Try.func31 (by kernel_rfl) rfl #[.agg #[.int .i64 x360000_1, .slice Ao22 x360001_1.length co22], .int .i64 t363, .int .i64 t364] (by rfl) rfl rfl (zb10) ?_
         with_reducible refine (impl_MarkSet.calls k1 x360000_1 _ _ x360001_1 t363 t364 t365 t366 t369 _ ?side1 ?side2 A16.out).mono ?_
         (case side1 => exact zb157)
         (case side2 => exact (Kd.R_reads' HO_360001.out).2.1)
         rintro e w24 ⟨v367, rfl, ho0, hb⟩
         refine ⟨_, rfl, ?_⟩
         have n0_ := Aside0.mk (Kd.R_elder' (zb156) (Kd.R_base ho0) hb)
         have n1_ := Aside0.mk (Kd.R_lower (Kd.R_new' ho0 (Kd.R_lt (zb156))) (below_size (zb154)))
         have n2_ := Aside0.mk (blk_below (g := gb359) (o := .cells #[.int .i64 x360000_1, .slice Ao22 x360001_1.length co22] 53 (0, 0)) (zb155) hb)
         have n3_ := Aside0.mk (below_step (zb154) hb)
         clear HO_360001
         clear BK359
         clear HB
         have HO_360001 := n0_
         have HO368 := n1_
         have BK359 := n2_
         have HB := n3_
         clear n0_ n1_ n2_ n3_
         (try clear hb)
         (try clear hb2)
         (try clear hk)
         (try clear hi)
         (try clear ho0)
         refine hK.out _ _ ⟨(blk_cell BK359.out 0).trans rfl, (blk_cell BK359.out 1).trans rfl⟩ (fun hHeld => ?_)
         clear hK K
         refine norm_ (a' := ?_) ?_ ?_
         rotate_left
         ·show Act.put _ (some 49) _ = _
          simp only [Act.put, List.setIfInBounds_toArray, List.set_cons_zero, List.set_cons_succ, i64_w, i32_w]
          rfl
         refine pz 7 42 (bz 13 255) rfl rfl ?_
         refine pz 8 50 (bz 13 511) rfl rfl ?_
         refine pz 9 51 (bz 13 1023) rfl rfl ?_
         refine one_ (i := 10) (N := some 8) (bz 13 2047) rfl rfl (one_of HT_.out (by kernel_rfl)) (by decide) (fun K hK => ?_)
         refine box_step ?hg (N := 8) ?hd (cs := #[.int .i64 0, .slice none 0 0]) (t := 53) ?hr ?_; (case hd => rfl); (case hg => rfl); (case hr => first | (go_simp; done) | (go_simp; rfl))
         intro gb370 hg w25 hbox hb
         have n0_ := Aside0.mk (Kd.R_below (zb156) hb)
         have n1_ := Aside0.mk (Kd.R_below (zb158) hb)
         have n2_ := Aside0.mk (blk_below (g := gb359) (o := .cells #[.int .i64 x360000_1, .slice Ao22 x360001_1.length co22] 53 (0, 0)) (zb155) hb)
         have n3_ := Aside0.mk (below_step (zb154) hb)
         have n4_ := Aside0.mk (hbox)
         have n5_ := Aside0.mk ((by rw [hg]; exact (below_size (zb154)) : w.heap.size ≤ gb370))
         have n6_ := Aside0.mk ((by rw [hg]; exact (below_size (zb154)) : w.heap.size ≤ gb370))
         have n7_ := Aside0.mk ((by rw [hg]; exact Nat.ne_of_lt (blk_lt (g := gb359) (o := .cells #[.int .i64 x360000_1, .slice Ao22 x360001_1.length co22] 53 (0, 0)) (zb155)) : gb359 ≠ gb370))
         have n8_ := Aside0.mk ((by rw [hg]; exact Nat.ne_of_gt (blk_lt (g := gb359) (o := .cells #[.int .i64 x360000_1, .slice Ao22 x360001_1.length co22] 53 (0, 0)) (zb155)) : gb370 ≠ gb359))
         clear HO_360001
         clear HO368
         clear BK359
         clear HB
         have HO_360001 := n0_
         have HO368 := n1_
         have BK359 := n2_
         have HB := n3_
         have BK370 := n4_
         have GW370 := n5_
         have GE370 := n6_
         have NB359_370 := n7_
         have NB370_359 := n8_
         clear n0_ n1_ n2_ n3_ n4_ n5_ n6_ n7_ n8_
         clear hb hbox hg
         refine hK.out _ _ ⟨(blk_cell BK359.out 0).trans rfl, (blk_cell BK359.out 1).trans rfl⟩ (fun hHeld => ?_)
         clear hK K
         refine norm_ (a' := ?_) ?_ ?_
         rotate_left
         ·show Act.put _ (some 8) _ = _
          simp only [Act.put, List.setIfInBounds_toArray, List.set_cons_zero, List.set_cons_succ, i64_w, i32_w]
          rfl
         exact norm_ (zb31) (hCont (v367, gb370) _ ⟨hHeld, (zb159), (zb160), (zb155), (zb161), GW370.out, GE370.out, NB359_370.out, NB370_359.out, (zb162)⟩)
        ·skip
         refine box_step ?hg (N := 8) ?hd (cs := #[.int .i64 0, .slice none 0 0]) (t := 53) ?hr ?_; (case hd => rfl); (case hg => rfl); (case hr => first | (go_simp; done) | (go_simp; rfl))
         intro gb370 hg w24 hbox hb
         have n0_ := Aside0.mk (Kd.R_below (zb156) hb)
         have n1_ := Aside0.mk (blk_below (g := gb359) (o := .cells #[.int .i64 x360000_1, .slice Ao22 x360001_1.length co22] 53 (0, 0)) (zb155) hb)
         have n2_ := Aside0.mk (below_step (zb154) hb)
         have n3_ := Aside0.mk (hbox)
         have n4_ := Aside0.mk ((by rw [hg]; exact (below_size (zb154)) : w.heap.size ≤ gb370))
         have n5_ := Aside0.mk ((by rw [hg]; exact (below_size (zb154)) : w.heap.size ≤ gb370))
         have n6_ := Aside0.mk ((by rw [hg]; exact Nat.ne_of_lt (blk_lt (g := gb359) (o := .cells #[.int .i64 x360000_1, .slice Ao22 x360001_1.length co22] 53 (0, 0)) (zb155)) : gb359 ≠ gb370))
         have n7_ := Aside0.mk ((by rw [hg]; exact Nat.ne_of_gt (blk_lt (g := gb359) (o := .cells #[.int .i64 x360000_1, .slice Ao22 x360001_1.length co22] 53 (0, 0)) (zb155)) : gb370 ≠ gb359))
         clear HO_360001
         clear BK359
         clear HB
         have HO_360001 := n0_
         have BK359 := n1_
         have HB := n2_
         have BK370 := n3_
         have GW370 := n4_
         have GE370 := n5_
         have NB359_370 := n6_
         have NB370_359 := n7_
         clear n0_ n1_ n2_ n3_ n4_ n5_ n6_ n7_
         clear hb hbox hg
         refine hK.out _ _ ⟨(blk_cell BK359.out 0).trans rfl, (blk_cell BK359.out 1).trans rfl⟩ (fun hHeld => ?_)
         clear hK K
         refine norm_ (a' := ?_) ?_ ?_
         rotate_left
         ·show Act.put _ (some 8) _ = _
          simp only [Act.put, List.setIfInBounds_toArray, List.set_cons_zero, List.set_cons_succ, i64_w, i32_w]
          rfl
         refine one_ (i := 6) (N := some 49) (bz 13 1151) rfl rfl (one_of HT_.out (by kernel_rfl)) (by decide) (fun K hK => ?_)
         refine goes_ Try.func31 (by kernel_rfl) rfl #[.agg #[.int .i64 x360000_1, .slice Ao22 x360001_1.length co22], .int .i64 t363, .int .i64 t364] (by rfl) rfl rfl (zb10) ?_
         with_reducible refine (impl_MarkSet.calls k1 x360000_1 _ _ x360001_1 t363 t364 t365 t366 t369 _ ?side1 ?side2 A16.out).mono ?_
         (case side1 => exact zb157)
         (case side2 => exact (Kd.R_reads' HO_360001.out).2.1)
         rintro e w25 ⟨v367, rfl, ho0, hb⟩
         refine ⟨_, rfl, ?_⟩
         have n0_ := Aside0.mk (Kd.R_elder' (zb156) (Kd.R_base ho0) hb)
         have n1_ := Aside0.mk (Kd.R_lower (Kd.R_new' ho0 (Kd.R_lt (zb156))) (below_size (zb162)))
         have n2_ := Aside0.mk (blk_below (g := gb359) (o := .cells #[.int .i64 x360000_1, .slice Ao22 x360001_1.length co22] 53 (0, 0)) (zb155) hb)
         have n3_ := Aside0.mk (blk_below (g := gb370) (o := .cells #[.int .i64 0, .slice none 0 0] 53 (0, 0)) (zb161) hb)
         have n4_ := Aside0.mk (below_step (zb162) hb)
         clear HO_360001
         clear BK359
         clear BK370
         clear HB
         have HO_360001 := n0_
         have HO368 := n1_
         have BK359 := n2_
         have BK370 := n3_
         have HB := n4_
         clear n0_ n1_ n2_ n3_ n4_
         (try clear hb)
         (try clear hb2)
         (try clear hk)
         (try clear hi)
         (try clear ho0)
         refine hK.out _ _ ⟨(blk_cell BK359.out 0).trans rfl, (blk_cell BK359.out 1).trans rfl⟩ (fun hHeld => ?_)
         clear hK K
         refine norm_ (a' := ?_) ?_ ?_
         rotate_left
         ·show Act.put _ (some 49) _ = _
          simp only [Act.put, List.setIfInBounds_toArray, List.set_cons_zero, List.set_cons_succ, i64_w, i32_w]
          rfl
         refine pz 7 42 (bz 13 1279) rfl rfl ?_
         refine pz 8 50 (bz 13 1535) rfl rfl ?_
         refine pz 9 51 (bz 13 2047) rfl rfl ?_
         exact norm_ (zb31) (hCont (v367, gb370) _ ⟨hHeld, (zb159), (zb160), (zb155), (zb161), GW370.out, GE370.out, NB359_370.out, NB370_359.out, (zb162)⟩)
       ·skip
        refine box_step ?hg (N := 8) ?hd (cs := #[.int .i64 0, .slice none 0 0]) (t := 53) ?hr ?_; (case hd => rfl); (case hg => rfl); (case hr => first | (go_simp; done) | (go_simp; rfl))
        intro gb370 hg w24 hbox hb
        have n0_ := Aside0.mk (Kd.R_below (zb156) hb)
        have n1_ := Aside0.mk (blk_below (g := gb359) (o := .cells #[.int .i64 x360000_1, .slice Ao22 x360001_1.length co22] 53 (0, 0)) (zb155) hb)
        have n2_ := Aside0.mk (below_step (zb154) hb)
        have n3_ := Aside0.mk (hbox)
        have n4_ := Aside0.mk ((by rw [hg]; exact (below_size (zb154)) : w.heap.size ≤ gb370))
        have n5_ := Aside0.mk ((by rw [hg]; exact (below_size (zb154)) : w.heap.size ≤ gb370))
        have n6_ := Aside0.mk ((by rw [hg]; exact Nat.ne_of_lt (blk_lt (g := gb359) (o := .cells #[.int .i64 x360000_1, .slice Ao22 x360001_1.length co22] 53 (0, 0)) (zb155)) : gb359 ≠ gb370))
        have n7_ := Aside0.mk ((by rw [hg]; exact Nat.ne_of_gt (blk_lt (g := gb359) (o := .cells #[.int .i64 x360000_1, .slice Ao22 x360001_1.length co22] 53 (0, 0)) (zb155)) : gb370 ≠ gb359))
        clear HO_360001
        clear BK359
        clear HB
        have HO_360001 := n0_
        have BK359 := n1_
        have HB := n2_
        have BK370 := n3_
        have GW370 := n4_
        have GE370 := n5_
        have NB359_370 := n6_
        have NB370_359 := n7_
        clear n0_ n1_ n2_ n3_ n4_ n5_ n6_ n7_
        clear hb hbox hg
        refine hK.out _ _ ⟨(blk_cell BK359.out 0).trans rfl, (blk_cell BK359.out 1).trans rfl⟩ (fun hHeld => ?_)
        clear hK K
        refine norm_ (a' := ?_) ?_ ?_
        rotate_left
        ·show Act.put _ (some 8) _ = _
         simp only [Act.put, List.setIfInBounds_toArray, List.set_cons_zero, List.set_cons_succ, i64_w, i32_w]
         rfl
        refine one_ (i := 5) (N := some 48) (bz 13 1087) rfl rfl (one_of HT_.out (by kernel_rfl)) (by decide) (fun K hK => ?_)
        refine goes_ Try.func30 (by kernel_rfl) rfl #[.slice A0 l0.length c0, .int .i64 (wrap64 (x6_1 + 2)), .int .i64 80] (by rfl) rfl rfl (zb10) ?_
        with_reducible refine (laws_pick.calls k1 _ _ l0 (wrap64 (x6_1 + 2)) 80 t364 _ ?side1 ?side2 A15.out).mono ?_
        (case side1 => exact zb121)
        (case side2 => exact HC0.out)
        rintro e w' ⟨rfl, ⟨nd, rfl⟩⟩
        refine ⟨_, rfl, ?_⟩
        refine hK.out _ _ ⟨(blk_cell BK359.out 0).trans rfl, (blk_cell BK359.out 1).trans rfl⟩ (fun hHeld => ?_)
        clear hK K
        refine norm_ (a' := ?_) ?_ ?_
        rotate_left
        ·show Act.put _ (some 48) _ = _
         simp only [Act.put, List.setIfInBounds_toArray, List.set_cons_zero, List.set_cons_succ, i64_w, i32_w]
         rfl
        refine one_ (i := 6) (N := some 49) (bz 13 1151) rfl rfl (one_of HT_.out (by kernel_rfl)) (by decide) (fun K hK => ?_)
        refine goes_ Try.func31 (by kernel_rfl) rfl #[.agg #[.int .i64 x360000_1, .slice Ao22 x360001_1.length co22], .int .i64 t363, .int .i64 t364] (by rfl) rfl rfl (zb10) ?_
        with_reducible refine (impl_MarkSet.calls k1 x360000_1 _ _ x360001_1 t363 t364 t365 t366 t369 _ ?side1 ?side2 A16.out).mono ?_
        (case side1 => exact zb157)
        (case side2 => exact (Kd.R_reads' HO_360001.out).2.1)
        rintro e w25 ⟨v367, rfl, ho0, hb⟩
        refine ⟨_, rfl, ?_⟩
        have n0_ := Aside0.mk (Kd.R_elder' (zb156) (Kd.R_base ho0) hb)
        have n1_ := Aside0.mk (Kd.R_lower (Kd.R_new' ho0 (Kd.R_lt (zb156))) (below_size (zb162)))
        have n2_ := Aside0.mk (blk_below (g := gb359) (o := .cells #[.int .i64 x360000_1, .slice Ao22 x360001_1.length co22] 53 (0, 0)) (zb155) hb)
        have n3_ := Aside0.mk (blk_below (g := gb370) (o := .cells #[.int .i64 0, .slice none 0 0] 53 (0, 0)) (zb161) hb)
        have n4_ := Aside0.mk (below_step (zb162) hb)
        clear HO_360001
        clear BK359
        clear BK370
        clear HB
        have HO_360001 := n0_
        have HO368 := n1_
        have BK359 := n2_
        have BK370 := n3_
        have HB := n4_
        clear n0_ n1_ n2_ n3_ n4_
        (try clear hb)
        (try clear hb2)
        (try clear hk)
        (try clear hi)
        (try clear ho0)
        refine hK.out _ _ ⟨(blk_cell BK359.out 0).trans rfl, (blk_cell BK359.out 1).trans rfl⟩ (fun hHeld => ?_)
        clear hK K
        refine norm_ (a' := ?_) ?_ ?_
        rotate_left
        ·show Act.put _ (some 49) _ = _
         simp only [Act.put, List.setIfInBounds_toArray, List.set_cons_zero, List.set_cons_succ, i64_w, i32_w]
         rfl
        refine pz 7 42 (bz 13 1279) rfl rfl ?_
        refine pz 8 50 (bz 13 1535) rfl rfl ?_
        refine pz 9 51 (bz 13 2047) rfl rfl ?_
        exact norm_ (zb31) (hCont (v367, gb370) _ ⟨hHeld, (zb159), (zb160), (zb155), (zb161), GW370.out, GE370.out, NB359_370.out, NB370_359.out, (zb162)⟩)
      rintro ⟨v367, gb370⟩ w26 ⟨hS_, h0_, h1_, h2_, h3_, h4_, h5_, h6_, h7_, h8_⟩
      have n0_ : Aside0 (Kd.R k63 63 w26 w.heap.size (fun k_ => some k_ ≠ (.slice Ao22 x360001_1.length co22 : Value).ownBlock) v367 t366) := ⟨h0_⟩
      have n1_ : Aside0 (Kd.R k63 63 w26 w.heap.size (fun k_ => some k_ ≠ (v367 : Value).ownBlock) (.slice Ao22 x360001_1.length co22) x360001_1) := ⟨h1_⟩
      have n2_ : Aside0 (w26.heap[gb359]? = some (.cells #[.int .i64 x360000_1, .slice Ao22 x360001_1.length co22] 53 (0, 0))) := ⟨h2_⟩
      have n3_ : Aside0 (w26.heap[gb370]? = some (.cells #[.int .i64 0, .slice none 0 0] 53 (0, 0))) := ⟨h3_⟩
      have n4_ : Aside0 (w.heap.size ≤ gb370) := ⟨h4_⟩
      have n5_ : Aside0 (w.heap.size ≤ gb370) := ⟨h5_⟩
      have n6_ : Aside0 (gb359 ≠ gb370) := ⟨h6_⟩
      have n7_ : Aside0 (gb370 ≠ gb359) := ⟨h7_⟩
      have n8_ : Aside0 (Below w.heap.size w w26) := ⟨h8_⟩
      clear HO_360001
      clear BK359
      clear HB
      clear h0_ h1_ h2_ h3_ h4_ h5_ h6_ h7_ h8_
      have HO368 := n0_
      have HO_360001 := n1_
      have BK359 := n2_
      have BK370 := n3_
      have GW370 := n4_
      have GE370 := n5_
      have NB359_370 := n6_
      have NB370_359 := n7_
      have HB := n8_
      clear n0_ n1_ n2_ n3_ n4_ n5_ n6_ n7_ n8_
      have hHeld : w26.cell? ⟨gb359, 0, none⟩ = some (.int .i64 x360000_1) ∧ w26.cell? ⟨gb359, 1, none⟩ = some (.slice Ao22 x360001_1.length co22) := hS_
      obtain ⟨Ao28, co28, eo28⟩ := Kd.R_slice HO368.out
      (first | subst eo28 | (injection eo28 with f1_ f2_ f3_; have f4_ := f1_.symm; have f5_ := f3_.symm; clear f1_ f2_ f3_; subst f4_; subst f5_))
      refine norm_ (a' := ?_) ?_ ?_
      rotate_left
      ·simp only [putAll, Act.put, List.setIfInBounds_toArray, List.set_cons_zero, List.set_cons_succ]
       rfl
      refine one_ (i := 11) (N := none) (bz 13 4095) rfl rfl (one_of HT_.out (by kernel_rfl)) (by decide) (fun K hK => ?_)
      have hs27 : w26.cell? ⟨gb370, 0, none⟩ = some (.int .i64 0) := (blk_cell BK370.out 0).trans rfl
      have hfs27 := blk_frozen BK370.out 0
      have hns27_0 := NB359_370.out
      have hms27_0 := NB370_359.out
      have hs29 : w26.cell? ⟨gb370, 1, none⟩ = some (.slice none 0 0) := (blk_cell BK370.out 1).trans rfl
      have hfs29 := blk_frozen BK370.out 1
      have hns29_0 := NB359_370.out
      have hms29_0 := NB370_359.out
      refine skip_ (w1 := ?_) (by rfl) rfl ?_ ?_
      rotate_left
      ·go_simp
       rfl
      refine hK.out _ _ ⟨((cell_far (p := ⟨gb370, _, none⟩) NB359_370.out _).trans (((cell_far (p := ⟨gb370, _, none⟩) NB359_370.out _).trans (hHeld.1)))), ((cell_far (p := ⟨gb370, _, none⟩) NB359_370.out _).trans (((cell_far (p := ⟨gb370, _, none⟩) NB359_370.out _).trans (hHeld.2))))⟩ (fun hHeld => ?_)
      clear hK K
      refine pz 12 9 (bz 13 8191) rfl rfl ?_
      refine done_ (done_of HT_.out (by kernel_rfl)) ?_
      try go_wp2
      have n0_ : Aside0 (Kd.R k63 63 ((w26.setCell ⟨gb370, 0, none⟩ (.int .i64 t365)).setCell ⟨gb370, 1, none⟩ (.slice Ao28 t366.length co28)) w.heap.size (fun k_ => some k_ ≠ (.slice Ao28 t366.length co28 : Value).ownBlock) (.slice Ao22 x360001_1.length co22) x360001_1) := ⟨by (with_reducible repeat (first | apply Kd.R_alloc | apply Kd.R_drewN | apply Kd.R_drew)); exact Kd.R_mono (Kd.R_far (p := ⟨gb370, 1, none⟩) (Kd.R_far (p := ⟨gb370, 0, none⟩) (Kd.R_types HO_360001.out BK370.out (by decide)) (fun _ hk => hk.2) (.int .i64 t365)) (fun _ hk => hk.2) (.slice Ao28 t366.length co28)) (fun _ hk => hk.1)⟩
      have n1_ : Aside0 (Kd.R k63 63 ((w26.setCell ⟨gb370, 0, none⟩ (.int .i64 t365)).setCell ⟨gb370, 1, none⟩ (.slice Ao28 t366.length co28)) w.heap.size (fun k_ => some k_ ≠ (.slice Ao22 x360001_1.length co22 : Value).ownBlock) (.slice Ao28 t366.length co28) t366) := ⟨by (with_reducible repeat (first | apply Kd.R_alloc | apply Kd.R_drewN | apply Kd.R_drew)); exact Kd.R_mono (Kd.R_far (p := ⟨gb370, 1, none⟩) (Kd.R_far (p := ⟨gb370, 0, none⟩) (Kd.R_types HO368.out BK370.out (by decide)) (fun _ hk => hk.2) (.int .i64 t365)) (fun _ hk => hk.2) (.slice Ao28 t366.length co28)) (fun _ hk => hk.1)⟩
      have n2_ : Aside0 (((w26.setCell ⟨gb370, 0, none⟩ (.int .i64 t365)).setCell ⟨gb370, 1, none⟩ (.slice Ao28 t366.length co28)).heap[gb359]? = some (.cells #[.int .i64 x360000_1, .slice Ao22 x360001_1.length co22] 53 (0, 0))) := ⟨zb163⟩
      have n3_ : Aside0 (((w26.setCell ⟨gb370, 0, none⟩ (.int .i64 t365)).setCell ⟨gb370, 1, none⟩ (.slice Ao28 t366.length co28)).heap[gb370]? = some (.cells #[.int .i64 t365, .slice Ao28 t366.length co28] 53 (0, 0))) := ⟨by (with_reducible repeat (first | refine blk_drewN ?_ _ | refine blk_drew ?_ | refine blk_alloc ?_ _)); refine blk_put (cs := #[.int .i64 t365, .slice none 0 0]) ?_ 1 _ rfl; (with_reducible repeat (first | refine blk_drewN ?_ _ | refine blk_drew ?_ | refine blk_alloc ?_ _)); refine blk_put (cs := #[.int .i64 0, .slice none 0 0]) ?_ 0 _ rfl; (with_reducible repeat (first | refine blk_drewN ?_ _ | refine blk_drew ?_ | refine blk_alloc ?_ _)); exact BK370.out⟩
      have n4_ : Aside0 (Below w.heap.size w ((w26.setCell ⟨gb370, 0, none⟩ (.int .i64 t365)).setCell ⟨gb370, 1, none⟩ (.slice Ao28 t366.length co28))) := ⟨zb162⟩
      (try clear HO_360001)
      (try clear HO368)
      (try clear BK359)
      (try clear BK370)
      (try clear HB)
      generalize ((w26.setCell ⟨gb370, 0, none⟩ (.int .i64 t365)).setCell ⟨gb370, 1, none⟩ (.slice Ao28 t366.length co28)) = w30 at n0_ n1_ n2_ n3_ n4_ ⊢
      have HO_360001 := n0_
      have HO368 := n1_
      have BK359 := n2_
      have BK370 := n3_
      have HB := n4_
      clear n0_ n1_ n2_ n3_ n4_
      have n0_ := Aside0.mk (Kd.R_drew HO_360001.out)
      have n1_ := Aside0.mk (Kd.R_drew HO368.out)
      have n2_ := Aside0.mk (blk_drew BK359.out)
      have n3_ := Aside0.mk (blk_drew BK370.out)
      have n4_ := Aside0.mk (below_drew1 HB.out)
      clear HO_360001
      clear HO368
      clear BK359
      clear BK370
      clear HB
      have HO_360001 := n0_
      have HO368 := n1_
      have BK359 := n2_
      have BK370 := n3_
      have HB := n4_
      clear n0_ n1_ n2_ n3_ n4_
      refine start_ (n := 13) (S := fun w' => w'.cell? ⟨gb359, 0, none⟩ = some (.int .i64 x360000_1) ∧ w'.cell? ⟨gb359, 1, none⟩ = some (.slice Ao22 x360001_1.length co22)) (ds := []) #[false, false, false, false, false, false, false, false, false, false, false, false, false] (by kernel_rfl) rfl rfl ⟨(blk_cell BK359.out 0).trans rfl, (blk_cell BK359.out 1).trans rfl⟩ (fun hHeld => ?_); refine with_tabW laws_FnMarks.tab11 laws_FnMarks.bits11 (fun HT_ HW_ => ?_)
      generalize w30.drew = w31 at HO_360001 HO368 BK359 BK370 HB hHeld ⊢
      refine pz 1 54 (bz 13 2) rfl rfl ?_
      refine pz 2 55 (bz 13 6) rfl rfl ?_
      refine pz 3 56 (bz 13 14) rfl rfl ?_
      refine pz 4 57 (bz 13 30) rfl rfl ?_
      refine tz 0 53 (bz 13 31) rfl rfl (Or.inl ⟨by rfl, by rintro w' ⟨s0, s1⟩; go_simp; with_reducible rfl⟩) hHeld ?_
      refine join_ (σ := Value × Nat) 2 #[true, true, true, true, true, true, true, true, true, true, true, false, false] (fun s_ => [(58, .int .i64 t371), (59, .tuple #[.agg #[.int .i64 t372, s_.1], .int .i64 t376]), (10, .pointer (some ⟨s_.2, 0, none⟩)), (52, .tuple #[.agg #[.int .i64 t372, s_.1], .int .i64 t376]), (60, .agg #[.int .i64 t372, s_.1]), (61, .int .i64 t376)]) (fun s_ w' => (w'.cell? ⟨gb359, 0, none⟩ = some (.int .i64 x360000_1) ∧ w'.cell? ⟨gb359, 1, none⟩ = some (.slice Ao22 x360001_1.length co22)) ∧ (Kd.R k63 63 w' w.heap.size (fun k_ => some k_ ≠ (s_.1 : Value).ownBlock ∧ some k_ ≠ (.slice Ao22 x360001_1.length co22 : Value).ownBlock) (.slice Ao28 t366.length co28) t366) ∧ (Kd.R k63 63 w' w.heap.size (fun k_ => some k_ ≠ (.slice Ao28 t366.length co28 : Value).ownBlock ∧ some k_ ≠ (.slice Ao22 x360001_1.length co22 : Value).ownBlock) s_.1 t373) ∧ (Kd.R k63 63 w' w.heap.size (fun k_ => some k_ ≠ (.slice Ao28 t366.length co28 : Value).ownBlock ∧ some k_ ≠ (s_.1 : Value).ownBlock) (.slice Ao22 x360001_1.length co22) x360001_1) ∧ (w'.heap[gb359]? = some (.cells #[.int .i64 x360000_1, .slice Ao22 x360001_1.length co22] 53 (0, 0))) ∧ (w'.heap[gb370]? = some (.cells #[.int .i64 t365, .slice Ao28 t366.length co28] 53 (0, 0))) ∧ (w'.heap[s_.2]? = some (.cells #[.int .i64 0, .slice none 0 0] 53 (0, 0))) ∧ (w.heap.size ≤ s_.2) ∧ (w.heap.size ≤ s_.2) ∧ (gb359 ≠ s_.2) ∧ (s_.2 ≠ gb359) ∧ (gb370 ≠ s_.2) ∧ (s_.2 ≠ gb370) ∧ (Below w.heap.size w w')) ?_ ?_
      rotate_left
      ·intro hCont
       refine two_ (i := 5) (j := 10) (Ni := some 58) (Nj := some 10) #[true, true, true, true, true, true, false, false, false, false, false, false, false] #[true, true, true, true, true, false, false, false, false, false, true, false, false] rfl rfl rfl rfl (two_of HT_.out (by kernel_rfl)) (by decide) (by decide) (fun K hK => ?_) (fun K hK => ?_)
       ·skip
        refine goes_ Try.func30 (by kernel_rfl) rfl #[.slice A0 l0.length c0, .int .i64 (wrap64 (x6_1 + 2)), .int .i64 80] (by rfl) rfl rfl (zb10) ?_
        with_reducible refine (laws_pick.calls k1 _ _ l0 (wrap64 (x6_1 + 2)) 80 t371 _ ?side1 ?side2 A17.out).mono ?_
        (case side1 => exact zb121)
        (case side2 => exact HC0.out)
        rintro e w' ⟨rfl, ⟨nd, rfl⟩⟩
        refine ⟨_, rfl, ?_⟩
        refine hK.out _ _ ⟨(blk_cell BK359.out 0).trans rfl, (blk_cell BK359.out 1).trans rfl⟩ (fun hHeld => ?_)
        clear hK K
        refine norm_ (a' := ?_) ?_ ?_
        rotate_left
        ·show Act.put _ (some 58) _ = _
         simp only [Act.put, List.setIfInBounds_toArray, List.set_cons_zero, List.set_cons_succ, i64_w, i32_w]
         rfl
        refine two_ (i := 6) (j := 10) (Ni := some 59) (Nj := some 10) #[true, true, true, true, true, true, true, false, false, false, false, false, false] #[true, true, true, true, true, true, false, false, false, false, true, false, false] rfl rfl rfl rfl (two_of HT_.out (by kernel_rfl)) (by decide) (by decide) (fun K hK => ?_) (fun K hK => ?_)
        ·skip
         refine goes_ Try.func32 (by kernel_rfl) rfl #[.agg #[.int .i64 x360000_1, .slice Ao22 x360001_1.length co22], .int .i64 t363, .int .i64 t371] (by rfl) rfl rfl (zb10) ?_
         with_reducible refine (spec_MarkSet.calls k1 x360000_1 _ _ x360001_1 t363 t371 t372 t373 t376 _ ?side1 ?side2 A18.out).mono ?_
         (case side1 => exact zb157)
         (case side2 => exact (Kd.R_reads' HO_360001.out).2.1)
         rintro e w32 ⟨v374, rfl, ho0, hb⟩
         refine ⟨_, rfl, ?_⟩
         have n0_ := Aside0.mk (Kd.R_elder' (zb156) (Kd.R_base ho0) hb)
         have n1_ := Aside0.mk (Kd.R_elder' (zb158) (Kd.R_base ho0) hb)
         have n2_ := Aside0.mk (Kd.R_lower (Kd.R_new' (Kd.R_new' ho0 (Kd.R_lt (zb156))) (Kd.R_lt (zb158))) (below_size (zb162)))
         have n3_ := Aside0.mk (blk_below (g := gb359) (o := .cells #[.int .i64 x360000_1, .slice Ao22 x360001_1.length co22] 53 (0, 0)) (zb155) hb)
         have n4_ := Aside0.mk (blk_below (g := gb370) (o := .cells #[.int .i64 t365, .slice Ao28 t366.length co28] 53 (0, 0)) (zb161) hb)
         have n5_ := Aside0.mk (below_step (zb162) hb)
         clear HO_360001
         clear HO368
         clear BK359
         clear BK370
         clear HB
         have HO_360001 := n0_
         have HO368 := n1_
         have HO375 := n2_
         have BK359 := n3_
         have BK370 := n4_
         have HB := n5_
         clear n0_ n1_ n2_ n3_ n4_ n5_
         (try clear hb)
         (try clear hb2)
         (try clear hk)
         (try clear hi)
         (try clear ho0)
         refine hK.out _ _ ⟨(blk_cell BK359.out 0).trans rfl, (blk_cell BK359.out 1).trans rfl⟩ (fun hHeld => ?_)
         clear hK K
         refine norm_ (a' := ?_) ?_ ?_
         rotate_left
         ·show Act.put _ (some 59) _ = _
          simp only [Act.put, List.setIfInBounds_toArray, List.set_cons_zero, List.set_cons_succ, i64_w, i32_w]
          rfl
         refine pz 7 52 (bz 13 255) rfl rfl ?_
         refine pz 8 60 (bz 13 511) rfl rfl ?_
         refine pz 9 61 (bz 13 1023) rfl rfl ?_
         refine one_ (i := 10) (N := some 10) (bz 13 2047) rfl rfl (one_of HT_.out (by kernel_rfl)) (by decide) (fun K hK => ?_)
         refine box_step ?hg (N := 10) ?hd (cs := #[.int .i64 0, .slice none 0 0]) (t := 53) ?hr ?_; (case hd => rfl); (case hg => rfl); (case hr => first | (go_simp; done) | (go_simp; rfl))
         intro gb377 hg w33 hbox hb
         have n0_ := Aside0.mk (Kd.R_below (zb156) hb)
         have n1_ := Aside0.mk (Kd.R_below (zb158) hb)
         have n2_ := Aside0.mk (Kd.R_below (zb164) hb)
         have n3_ := Aside0.mk (blk_below (g := gb359) (o := .cells #[.int .i64 x360000_1, .slice Ao22 x360001_1.length co22] 53 (0, 0)) (zb155) hb)
         have n4_ := Aside0.mk (blk_below (g := gb370) (o := .cells #[.int .i64 t365, .slice Ao28 t366.length co28] 53 (0, 0)) (zb161) hb)
         have n5_ := Aside0.mk (below_step (zb162) hb)
         have n6_ := Aside0.mk (hbox)
         have n7_ := Aside0.mk ((by rw [hg]; exact (below_size (zb162)) : w.heap.size ≤ gb377))
         have n8_ := Aside0.mk ((by rw [hg]; exact (below_size (zb162)) : w.heap.size ≤ gb377))
         have n9_ := Aside0.mk ((by rw [hg]; exact Nat.ne_of_lt (blk_lt (g := gb359) (o := .cells #[.int .i64 x360000_1, .slice Ao22 x360001_1.length co22] 53 (0, 0)) (zb155)) : gb359 ≠ gb377))
         have n10_ := Aside0.mk ((by rw [hg]; exact Nat.ne_of_gt (blk_lt (g := gb359) (o := .cells #[.int .i64 x360000_1, .slice Ao22 x360001_1.length co22] 53 (0, 0)) (zb155)) : gb377 ≠ gb359))
         have n11_ := Aside0.mk ((by rw [hg]; exact Nat.ne_of_lt (blk_lt (g := gb370) (o := .cells #[.int .i64 t365, .slice Ao28 t366.length co28] 53 (0, 0)) (zb161)) : gb370 ≠ gb377))
         have n12_ := Aside0.mk ((by rw [hg]; exact Nat.ne_of_gt (blk_lt (g := gb370) (o := .cells #[.int .i64 t365, .slice Ao28 t366.length co28] 53 (0, 0)) (zb161)) : gb377 ≠ gb370))
         clear HO_360001
         clear HO368
         clear HO375
         clear BK359
         clear BK370
         clear HB
         have HO_360001 := n0_
         have HO368 := n1_
         have HO375 := n2_
         have BK359 := n3_
         have BK370 := n4_
         have HB := n5_
         have BK377 := n6_
         have GW377 := n7_
         have GE377 := n8_
         have NB359_377 := n9_
         have NB377_359 := n10_
         have NB370_377 := n11_
         have NB377_370 := n12_
         clear n0_ n1_ n2_ n3_ n4_ n5_ n6_ n7_ n8_ n9_ n10_ n11_ n12_
         clear hb hbox hg
         refine hK.out _ _ ⟨(blk_cell BK359.out 0).trans rfl, (blk_cell BK359.out 1).trans rfl⟩ (fun hHeld => ?_)
         clear hK K
         refine norm_ (a' := ?_) ?_ ?_
         rotate_left
         ·show Act.put _ (some 10) _ = _
          simp only [Act.put, List.setIfInBounds_toArray, List.set_cons_zero, List.set_cons_succ, i64_w, i32_w]
          rfl
         exact norm_ (zb31) (hCont (v374, gb377) _ ⟨hHeld, (zb165), (zb166), (zb156), (zb155), (zb161), (zb167), GW377.out, GE377.out, NB359_377.out, NB377_359.out, NB370_377.out, NB377_370.out, (zb168)⟩)
        ·skip
         refine box_step ?hg (N := 10) ?hd (cs := #[.int .i64 0, .slice none 0 0]) (t := 53) ?hr ?_; (case hd => rfl); (case hg => rfl); (case hr => first | (go_simp; done) | (go_simp; rfl))
         intro gb377 hg w32 hbox hb
         have n0_ := Aside0.mk (Kd.R_below (zb156) hb)
         have n1_ := Aside0.mk (Kd.R_below (zb158) hb)
         have n2_ := Aside0.mk (blk_below (g := gb359) (o := .cells #[.int .i64 x360000_1, .slice Ao22 x360001_1.length co22] 53 (0, 0)) (zb155) hb)
         have n3_ := Aside0.mk (blk_below (g := gb370) (o := .cells #[.int .i64 t365, .slice Ao28 t366.length co28] 53 (0, 0)) (zb161) hb)
         have n4_ := Aside0.mk (below_step (zb162) hb)
         have n5_ := Aside0.mk (hbox)
         have n6_ := Aside0.mk ((by rw [hg]; exact (below_size (zb162)) : w.heap.size ≤ gb377))
         have n7_ := Aside0.mk ((by rw [hg]; exact (below_size (zb162)) : w.heap.size ≤ gb377))
         have n8_ := Aside0.mk ((by rw [hg]; exact Nat.ne_of_lt (blk_lt (g := gb359) (o := .cells #[.int .i64 x360000_1, .slice Ao22 x360001_1.length co22] 53 (0, 0)) (zb155)) : gb359 ≠ gb377))
         have n9_ := Aside0.mk ((by rw [hg]; exact Nat.ne_of_gt (blk_lt (g := gb359) (o := .cells #[.int .i64 x360000_1, .slice Ao22 x360001_1.length co22] 53 (0, 0)) (zb155)) : gb377 ≠ gb359))
         have n10_ := Aside0.mk ((by rw [hg]; exact Nat.ne_of_lt (blk_lt (g := gb370) (o := .cells #[.int .i64 t365, .slice Ao28 t366.length co28] 53 (0, 0)) (zb161)) : gb370 ≠ gb377))
         have n11_ := Aside0.mk ((by rw [hg]; exact Nat.ne_of_gt (blk_lt (g := gb370) (o := .cells #[.int .i64 t365, .slice Ao28 t366.length co28] 53 (0, 0)) (zb161)) : gb377 ≠ gb370))
         clear HO_360001
         clear HO368
         clear BK359
         clear BK370
         clear HB
         have HO_360001 := n0_
         have HO368 := n1_
         have BK359 := n2_
         have BK370 := n3_
         have HB := n4_
         have BK377 := n5_
         have GW377 := n6_
         have GE377 := n7_
         have NB359_377 := n8_
         have NB377_359 := n9_
         have NB370_377 := n10_
         have NB377_370 := n11_
         clear n0_ n1_ n2_ n3_ n4_ n5_ n6_ n7_ n8_ n9_ n10_ n11_
         clear hb hbox hg
         refine hK.out _ _ ⟨(blk_cell BK359.out 0).trans rfl, (blk_cell BK359.out 1).trans rfl⟩ (fun hHeld => ?_)
         clear hK K
         refine norm_ (a' := ?_) ?_ ?_
         rotate_left
         ·show Act.put _ (some 10) _ = _
          simp only [Act.put, List.setIfInBounds_toArray, List.set_cons_zero, List.set_cons_succ, i64_w, i32_w]
          rfl
         refine one_ (i := 6) (N := some 59) (bz 13 1151) rfl rfl (one_of HT_.out (by kernel_rfl)) (by decide) (fun K hK => ?_)
         refine goes_ Try.func32 (by kernel_rfl) rfl #[.agg #[.int .i64 x360000_1, .slice Ao22 x360001_1.length co22], .int .i64 t363, .int .i64 t371] (by rfl) rfl rfl (zb10) ?_
         with_reducible refine (spec_MarkSet.calls k1 x360000_1 _ _ x360001_1 t363 t371 t372 t373 t376 _ ?side1 ?side2 A18.out).mono ?_
         (case side1 => exact zb157)
         (case side2 => exact (Kd.R_reads' HO_360001.out).2.1)
         rintro e w33 ⟨v374, rfl, ho0, hb⟩
         refine ⟨_, rfl, ?_⟩
         have n0_ := Aside0.mk (Kd.R_elder' (zb156) (Kd.R_base ho0) hb)
         have n1_ := Aside0.mk (Kd.R_elder' (zb158) (Kd.R_base ho0) hb)
         have n2_ := Aside0.mk (Kd.R_lower (Kd.R_new' (Kd.R_new' ho0 (Kd.R_lt (zb156))) (Kd.R_lt (zb158))) (below_size (zb168)))
         have n3_ := Aside0.mk (blk_below (g := gb359) (o := .cells #[.int .i64 x360000_1, .slice Ao22 x360001_1.length co22] 53 (0, 0)) (zb155) hb)
         have n4_ := Aside0.mk (blk_below (g := gb370) (o := .cells #[.int .i64 t365, .slice Ao28 t366.length co28] 53 (0, 0)) (zb161) hb)
         have n5_ := Aside0.mk (blk_below (g := gb377) (o := .cells #[.int .i64 0, .slice none 0 0] 53 (0, 0)) (zb167) hb)
         have n6_ := Aside0.mk (below_step (zb168) hb)
         clear HO_360001
         clear HO368
         clear BK359
         clear BK370
         clear BK377
         clear HB
         have HO_360001 := n0_
         have HO368 := n1_
         have HO375 := n2_
         have BK359 := n3_
         have BK370 := n4_
         have BK377 := n5_
         have HB := n6_
         clear n0_ n1_ n2_ n3_ n4_ n5_ n6_
         (try clear hb)
         (try clear hb2)
         (try clear hk)
         (try clear hi)
         (try clear ho0)
         refine hK.out _ _ ⟨(blk_cell BK359.out 0).trans rfl, (blk_cell BK359.out 1).trans rfl⟩ (fun hHeld => ?_)
         clear hK K
         refine norm_ (a' := ?_) ?_ ?_
         rotate_left
         ·show Act.put _ (some 59) _ = _
          simp only [Act.put, List.setIfInBounds_toArray, List.set_cons_zero, List.set_cons_succ, i64_w, i32_w]
          rfl
         refine pz 7 52 (bz 13 1279) rfl rfl ?_
         refine pz 8 60 (bz 13 1535) rfl rfl ?_
         refine pz 9 61 (bz 13 2047) rfl rfl ?_
         exact norm_ (zb31) (hCont (v374, gb377) _ ⟨hHeld, (zb165), (zb166), (zb156), (zb155), (zb161), (zb167), GW377.out, GE377.out, NB359_377.out, NB377_359.out, NB370_377.out, NB377_370.out, (zb168)⟩)
       ·skip
        refine box_step ?hg (N := 10) ?hd (cs := #[.int .i64 0, .slice none 0 0]) (t := 53) ?hr ?_; (case hd => rfl); (case hg => rfl); (case hr => first | (go_simp; done) | (go_simp; rfl))
        intro gb377 hg w32 hbox hb
        have n0_ := Aside0.mk (Kd.R_below (zb156) hb)
        have n1_ := Aside0.mk (Kd.R_below (zb158) hb)
        have n2_ := Aside0.mk (blk_below (g := gb359) (o := .cells #[.int .i64 x360000_1, .slice Ao22 x360001_1.length co22] 53 (0, 0)) (zb155) hb)
        have n3_ := Aside0.mk (blk_below (g := gb370) (o := .cells #[.int .i64 t365, .slice Ao28 t366.length co28] 53 (0, 0)) (zb161) hb)
        have n4_ := Aside0.mk (below_step (zb162) hb)
        have n5_ := Aside0.mk (hbox)
        have n6_ := Aside0.mk ((by rw [hg]; exact (below_size (zb162)) : w.heap.size ≤ gb377))
        have n7_ := Aside0.mk ((by rw [hg]; exact (below_size (zb162)) : w.heap.size ≤ gb377))
        have n8_ := Aside0.mk ((by rw [hg]; exact Nat.ne_of_lt (blk_lt (g := gb359) (o := .cells #[.int .i64 x360000_1, .slice Ao22 x360001_1.length co22] 53 (0, 0)) (zb155)) : gb359 ≠ gb377))
        have n9_ := Aside0.mk ((by rw [hg]; exact Nat.ne_of_gt (blk_lt (g := gb359) (o := .cells #[.int .i64 x360000_1, .slice Ao22 x360001_1.length co22] 53 (0, 0)) (zb155)) : gb377 ≠ gb359))
        have n10_ := Aside0.mk ((by rw [hg]; exact Nat.ne_of_lt (blk_lt (g := gb370) (o := .cells #[.int .i64 t365, .slice Ao28 t366.length co28] 53 (0, 0)) (zb161)) : gb370 ≠ gb377))
        have n11_ := Aside0.mk ((by rw [hg]; exact Nat.ne_of_gt (blk_lt (g := gb370) (o := .cells #[.int .i64 t365, .slice Ao28 t366.length co28] 53 (0, 0)) (zb161)) : gb377 ≠ gb370))
        clear HO_360001
        clear HO368
        clear BK359
        clear BK370
        clear HB
        have HO_360001 := n0_
        have HO368 := n1_
        have BK359 := n2_
        have BK370 := n3_
        have HB := n4_
        have BK377 := n5_
        have GW377 := n6_
        have GE377 := n7_
        have NB359_377 := n8_
        have NB377_359 := n9_
        have NB370_377 := n10_
        have NB377_370 := n11_
        clear n0_ n1_ n2_ n3_ n4_ n5_ n6_ n7_ n8_ n9_ n10_ n11_
        clear hb hbox hg
        refine hK.out _ _ ⟨(blk_cell BK359.out 0).trans rfl, (blk_cell BK359.out 1).trans rfl⟩ (fun hHeld => ?_)
        clear hK K
        refine norm_ (a' := ?_) ?_ ?_
        rotate_left
        ·show Act.put _ (some 10) _ = _
         simp only [Act.put, List.setIfInBounds_toArray, List.set_cons_zero, List.set_cons_succ, i64_w, i32_w]
         rfl
        refine one_ (i := 5) (N := some 58) (bz 13 1087) rfl rfl (one_of HT_.out (by kernel_rfl)) (by decide) (fun K hK => ?_)
        refine goes_ Try.func30 (by kernel_rfl) rfl #[.slice A0 l0.length c0, .int .i64 (wrap64 (x6_1 + 2)), .int .i64 80] (by rfl) rfl rfl (zb10) ?_
        with_reducible refine (laws_pick.calls k1 _ _ l0 (wrap64 (x6_1 + 2)) 80 t371 _ ?side1 ?side2 A17.out).mono ?_
        (case side1 => exact zb121)
        (case side2 => exact HC0.out)
        rintro e w' ⟨rfl, ⟨nd, rfl⟩⟩
        refine ⟨_, rfl, ?_⟩
        refine hK.out _ _ ⟨(blk_cell BK359.out 0).trans rfl, (blk_cell BK359.out 1).trans rfl⟩ (fun hHeld => ?_)
        clear hK K
        refine norm_ (a' := ?_) ?_ ?_
        rotate_left
        ·show Act.put _ (some 58) _ = _
         simp only [Act.put, List.setIfInBounds_toArray, List.set_cons_zero, List.set_cons_succ, i64_w, i32_w]
         rfl
        refine one_ (i := 6) (N := some 59) (bz 13 1151) rfl rfl (one_of HT_.out (by kernel_rfl)) (by decide) (fun K hK => ?_)
        refine goes_ Try.func32 (by kernel_rfl) rfl #[.agg #[.int .i64 x360000_1, .slice Ao22 x360001_1.length co22], .int .i64 t363, .int .i64 t371] (by rfl) rfl rfl (zb10) ?_
        with_reducible refine (spec_MarkSet.calls k1 x360000_1 _ _ x360001_1 t363 t371 t372 t373 t376 _ ?side1 ?side2 A18.out).mono ?_
        (case side1 => exact zb157)
        (case side2 => exact (Kd.R_reads' HO_360001.out).2.1)
        rintro e w33 ⟨v374, rfl, ho0, hb⟩
        refine ⟨_, rfl, ?_⟩
        have n0_ := Aside0.mk (Kd.R_elder' (zb156) (Kd.R_base ho0) hb)
        have n1_ := Aside0.mk (Kd.R_elder' (zb158) (Kd.R_base ho0) hb)
        have n2_ := Aside0.mk (Kd.R_lower (Kd.R_new' (Kd.R_new' ho0 (Kd.R_lt (zb156))) (Kd.R_lt (zb158))) (below_size (zb168)))
        have n3_ := Aside0.mk (blk_below (g := gb359) (o := .cells #[.int .i64 x360000_1, .slice Ao22 x360001_1.length co22] 53 (0, 0)) (zb155) hb)
        have n4_ := Aside0.mk (blk_below (g := gb370) (o := .cells #[.int .i64 t365, .slice Ao28 t366.length co28] 53 (0, 0)) (zb161) hb)
        have n5_ := Aside0.mk (blk_below (g := gb377) (o := .cells #[.int .i64 0, .slice none 0 0] 53 (0, 0)) (zb167) hb)
        have n6_ := Aside0.mk (below_step (zb168) hb)
        clear HO_360001
        clear HO368
        clear BK359
        clear BK370
        clear BK377
        clear HB
        have HO_360001 := n0_
        have HO368 := n1_
        have HO375 := n2_
        have BK359 := n3_
        have BK370 := n4_
        have BK377 := n5_
        have HB := n6_
        clear n0_ n1_ n2_ n3_ n4_ n5_ n6_
        (try clear hb)
        (try clear hb2)
        (try clear hk)
        (try clear hi)
        (try clear ho0)
        refine hK.out _ _ ⟨(blk_cell BK359.out 0).trans rfl, (blk_cell BK359.out 1).trans rfl⟩ (fun hHeld => ?_)
        clear hK K
        refine norm_ (a' := ?_) ?_ ?_
        rotate_left
        ·show Act.put _ (some 59) _ = _
         simp only [Act.put, List.setIfInBounds_toArray, List.set_cons_zero, List.set_cons_succ, i64_w, i32_w]
         rfl
        refine pz 7 52 (bz 13 1279) rfl rfl ?_
        refine pz 8 60 (bz 13 1535) rfl rfl ?_
        refine pz 9 61 (bz 13 2047) rfl rfl ?_
        exact norm_ (zb31) (hCont (v374, gb377) _ ⟨hHeld, (zb165), (zb166), (zb156), (zb155), (zb161), (zb167), GW377.out, GE377.out, NB359_377.out, NB377_359.out, NB370_377.out, NB377_370.out, (zb168)⟩)
      rintro ⟨v374, gb377⟩ w34 ⟨hS_, h0_, h1_, h2_, h3_, h4_, h5_, h6_, h7_, h8_, h9_, h10_, h11_, h12_⟩
      have n0_ : Aside0 (Kd.R k63 63 w34 w.heap.size (fun k_ => some k_ ≠ (v374 : Value).ownBlock ∧ some k_ ≠ (.slice Ao22 x360001_1.length co22 : Value).ownBlock) (.slice Ao28 t366.length co28) t366) := ⟨h0_⟩
      have n1_ : Aside0 (Kd.R k63 63 w34 w.heap.size (fun k_ => some k_ ≠ (.slice Ao28 t366.length co28 : Value).ownBlock ∧ some k_ ≠ (.slice Ao22 x360001_1.length co22 : Value).ownBlock) v374 t373) := ⟨h1_⟩
      have n2_ : Aside0 (Kd.R k63 63 w34 w.heap.size (fun k_ => some k_ ≠ (.slice Ao28 t366.length co28 : Value).ownBlock ∧ some k_ ≠ (v374 : Value).ownBlock) (.slice Ao22 x360001_1.length co22) x360001_1) := ⟨h2_⟩
      have n3_ : Aside0 (w34.heap[gb359]? = some (.cells #[.int .i64 x360000_1, .slice Ao22 x360001_1.length co22] 53 (0, 0))) := ⟨h3_⟩
      have n4_ : Aside0 (w34.heap[gb370]? = some (.cells #[.int .i64 t365, .slice Ao28 t366.length co28] 53 (0, 0))) := ⟨h4_⟩
      have n5_ : Aside0 (w34.heap[gb377]? = some (.cells #[.int .i64 0, .slice none 0 0] 53 (0, 0))) := ⟨h5_⟩
      have n6_ : Aside0 (w.heap.size ≤ gb377) := ⟨h6_⟩
      have n7_ : Aside0 (w.heap.size ≤ gb377) := ⟨h7_⟩
      have n8_ : Aside0 (gb359 ≠ gb377) := ⟨h8_⟩
      have n9_ : Aside0 (gb377 ≠ gb359) := ⟨h9_⟩
      have n10_ : Aside0 (gb370 ≠ gb377) := ⟨h10_⟩
      have n11_ : Aside0 (gb377 ≠ gb370) := ⟨h11_⟩
      have n12_ : Aside0 (Below w.heap.size w w34) := ⟨h12_⟩
      clear HO_360001
      clear HO368
      clear BK359
      clear BK370
      clear HB
      clear h0_ h1_ h2_ h3_ h4_ h5_ h6_ h7_ h8_ h9_ h10_ h11_ h12_
      have HO368 := n0_
      have HO375 := n1_
      have HO_360001 := n2_
      have BK359 := n3_
      have BK370 := n4_
      have BK377 := n5_
      have GW377 := n6_
      have GE377 := n7_
      have NB359_377 := n8_
      have NB377_359 := n9_
      have NB370_377 := n10_
      have NB377_370 := n11_
      have HB := n12_
      clear n0_ n1_ n2_ n3_ n4_ n5_ n6_ n7_ n8_ n9_ n10_ n11_ n12_
      have hHeld : w34.cell? ⟨gb359, 0, none⟩ = some (.int .i64 x360000_1) ∧ w34.cell? ⟨gb359, 1, none⟩ = some (.slice Ao22 x360001_1.length co22) := hS_
      obtain ⟨Ao36, co36, eo36⟩ := Kd.R_slice HO375.out
      (first | subst eo36 | (injection eo36 with f1_ f2_ f3_; have f4_ := f1_.symm; have f5_ := f3_.symm; clear f1_ f2_ f3_; subst f4_; subst f5_))
      refine norm_ (a' := ?_) ?_ ?_
      rotate_left
      ·simp only [putAll, Act.put, List.setIfInBounds_toArray, List.set_cons_zero, List.set_cons_succ]
       rfl
      refine one_ (i := 11) (N := none) (bz 13 4095) rfl rfl (one_of HT_.out (by kernel_rfl)) (by decide) (fun K hK => ?_)
      have hs35 : w34.cell? ⟨gb377, 0, none⟩ = some (.int .i64 0) := (blk_cell BK377.out 0).trans rfl
      have hfs35 := blk_frozen BK377.out 0
      have hns35_0 := NB359_377.out
      have hns35_1 := NB370_377.out
      have hms35_0 := NB377_359.out
      have hms35_1 := NB377_370.out
      have hs37 : w34.cell? ⟨gb377, 1, none⟩ = some (.slice none 0 0) := (blk_cell BK377.out 1).trans rfl
      have hfs37 := blk_frozen BK377.out 1
      have hns37_0 := NB359_377.out
      have hns37_1 := NB370_377.out
      have hms37_0 := NB377_359.out
      have hms37_1 := NB377_370.out
      refine skip_ (w1 := ?_) (by rfl) rfl ?_ ?_
      rotate_left
      ·go_simp
       rfl
      refine hK.out _ _ ⟨((cell_far (p := ⟨gb377, _, none⟩) NB359_377.out _).trans (((cell_far (p := ⟨gb377, _, none⟩) NB359_377.out _).trans (hHeld.1)))), ((cell_far (p := ⟨gb377, _, none⟩) NB359_377.out _).trans (((cell_far (p := ⟨gb377, _, none⟩) NB359_377.out _).trans (hHeld.2))))⟩ (fun hHeld => ?_)
      clear hK K
      refine pz 12 11 (bz 13 8191) rfl rfl ?_
      refine done_ (done_of HT_.out (by kernel_rfl)) ?_
      go_upto_if 66 with (first | ((with_reducible refine gate_callee (f := 30) rfl ?_); refine goesL_ (some 65) rfl rfl Try.func30 (by kernel_rfl) rfl #[.slice A0 l0.length c0, .int .i64 (wrap64 (x6_1 + 1)), .int .i64 3] rfl (zb10) ?_; (with_reducible refine (laws_pick.calls k1 _ _ l0 (wrap64 (x6_1 + 1)) 3 t378 _ ?side1 ?side2 A19.out).mono ?_); (case side1 => exact Kd.C_below HR0.out (zb168)); (case side2 => exact HC0.out); rintro e w' ⟨rfl, ⟨nd, rfl⟩⟩; refine ⟨_, rfl, ?_⟩))
      (try simp only [Act.put, List.setIfInBounds_toArray, List.set_cons_zero, List.set_cons_succ])
      go_cut [9, 11] (fun v9 v11 wc => ∃ (kq : Nat) (x9_19 : Int) (x11_19 : Int) (x371000_19 : Int) (x371001_19 : List (S63)) (x378000_19 : Int) (x378001_19 : List (S63)) (u371001 : Value) (u378001 : Value), v9 = .int .i64 x9_19 ∧ v11 = .int .i64 x11_19 ∧ Aside0 (laws_FnMarks.j1 kq l0 x6_1 t363 x9_19 x11_19 x360000_1 x360001_1 x371000_19 x371001_19 x378000_19 x378001_19 = some r) ∧ Aside0 (kq ≤ k1) ∧ Aside0 (Kd.R k63 63 wc w.heap.size (fun k_ => some k_ ≠ (u371001 : Value).ownBlock ∧ some k_ ≠ (u378001 : Value).ownBlock) (.slice Ao22 x360001_1.length co22) x360001_1) ∧ Aside0 (Kd.R k63 63 wc w.heap.size (fun k_ => some k_ ≠ ((.slice Ao22 x360001_1.length co22) : Value).ownBlock ∧ some k_ ≠ (u378001 : Value).ownBlock) u371001 x371001_19) ∧ Aside0 (Kd.R k63 63 wc w.heap.size (fun k_ => some k_ ≠ ((.slice Ao22 x360001_1.length co22) : Value).ownBlock ∧ some k_ ≠ (u371001 : Value).ownBlock) u378001 x378001_19) ∧ Aside0 (wc.heap[gb359]? = some (.cells #[.int .i64 x360000_1, (.slice Ao22 x360001_1.length co22)] 53 (0, 0))) ∧ Aside0 (wc.heap[gb370]? = some (.cells #[.int .i64 x371000_19, u371001] 53 (0, 0))) ∧ Aside0 (wc.heap[gb377]? = some (.cells #[.int .i64 x378000_19, u378001] 53 (0, 0))) ∧ Aside0 (Below w.heap.size w wc))
      case first =>
       have H := HC20.out
       clear HC20
       by_cases c38 : t378 = 0
       ·as_aux_lemma =>
        rw [if_pos c38] at H
        have c38b0 : (t378 == 0) = true := beq_iff_eq.mpr c38
        have c38b1 : (t378 != 0) = false := bne_eq_false_iff_eq.mpr c38
        clear c38
        (first | rw [c38b0] | (simp only [i64_w, i32_w]; rw [c38b0]) | skip)
        replace H := Option.bind_eq_some_iff.mp H
        obtain ⟨t379, A390, H⟩ := H
        replace H : ((impl_MarkIdle.f k1 x360000_1 x360001_1 t363 (t379 == 0)).bind fun bt380 => ((laws_pick.f k1 l0 (wrap64 (x6_1 + 4)) 2).bind fun t385 => ((spec_MarkIdle.f k1 x360000_1 x360001_1 t363 (t385 == 0)).bind fun bt386 => (laws_FnMarks.j1 k1 l0 x6_1 t363 bt380.2.2 bt386.2.2 x360000_1 x360001_1 bt380.1 bt380.2.1 bt386.1 bt386.2.1)))) = some r := H
        have A39 := Aside0.mk A390
        clear A390
        replace H := Option.bind_eq_some_iff.mp H
        obtain ⟨⟨t380, t381, t384⟩, A400, H⟩ := H
        replace H : ((laws_pick.f k1 l0 (wrap64 (x6_1 + 4)) 2).bind fun t385 => ((spec_MarkIdle.f k1 x360000_1 x360001_1 t363 (t385 == 0)).bind fun bt386 => (laws_FnMarks.j1 k1 l0 x6_1 t363 t384 bt386.2.2 x360000_1 x360001_1 t380 t381 bt386.1 bt386.2.1))) = some r := H
        have A40 := Aside0.mk A400
        clear A400
        replace H := Option.bind_eq_some_iff.mp H
        obtain ⟨t385, A410, H⟩ := H
        replace H : ((spec_MarkIdle.f k1 x360000_1 x360001_1 t363 (t385 == 0)).bind fun bt386 => (laws_FnMarks.j1 k1 l0 x6_1 t363 t384 bt386.2.2 x360000_1 x360001_1 t380 t381 bt386.1 bt386.2.1)) = some r := H
        have A41 := Aside0.mk A410
        clear A410
        replace H := Option.bind_eq_some_iff.mp H
        obtain ⟨⟨t386, t387, t390⟩, A420, H⟩ := H
        replace H : (laws_FnMarks.j1 k1 l0 x6_1 t363 t384 t390 x360000_1 x360001_1 t380 t381 t386 t387) = some r := H
        have A42 := Aside0.mk A420
        clear A420
        have H' := Aside0.mk H
        clear H
        try go_wp2
        have n0_ : Aside0 (Kd.R k63 63 ((w34.setCell ⟨gb377, 0, none⟩ (.int .i64 t372)).setCell ⟨gb377, 1, none⟩ (.slice Ao36 t373.length co36)) w.heap.size (fun k_ => some k_ ≠ (.slice Ao28 t366.length co28 : Value).ownBlock ∧ some k_ ≠ (.slice Ao36 t373.length co36 : Value).ownBlock) (.slice Ao22 x360001_1.length co22) x360001_1) := ⟨zb169⟩
        have n1_ : Aside0 (Kd.R k63 63 ((w34.setCell ⟨gb377, 0, none⟩ (.int .i64 t372)).setCell ⟨gb377, 1, none⟩ (.slice Ao36 t373.length co36)) w.heap.size (fun k_ => some k_ ≠ (.slice Ao22 x360001_1.length co22 : Value).ownBlock ∧ some k_ ≠ (.slice Ao36 t373.length co36 : Value).ownBlock) (.slice Ao28 t366.length co28) t366) := ⟨zb170⟩
        have n2_ : Aside0 (Kd.R k63 63 ((w34.setCell ⟨gb377, 0, none⟩ (.int .i64 t372)).setCell ⟨gb377, 1, none⟩ (.slice Ao36 t373.length co36)) w.heap.size (fun k_ => some k_ ≠ (.slice Ao22 x360001_1.length co22 : Value).ownBlock ∧ some k_ ≠ (.slice Ao28 t366.length co28 : Value).ownBlock) (.slice Ao36 t373.length co36) t373) := ⟨zb171⟩
        have n3_ : Aside0 (((w34.setCell ⟨gb377, 0, none⟩ (.int .i64 t372)).setCell ⟨gb377, 1, none⟩ (.slice Ao36 t373.length co36)).heap[gb359]? = some (.cells #[.int .i64 x360000_1, .slice Ao22 x360001_1.length co22] 53 (0, 0))) := ⟨zb172⟩
        have n4_ : Aside0 (((w34.setCell ⟨gb377, 0, none⟩ (.int .i64 t372)).setCell ⟨gb377, 1, none⟩ (.slice Ao36 t373.length co36)).heap[gb370]? = some (.cells #[.int .i64 t365, .slice Ao28 t366.length co28] 53 (0, 0))) := ⟨zb173⟩
        have n5_ : Aside0 (((w34.setCell ⟨gb377, 0, none⟩ (.int .i64 t372)).setCell ⟨gb377, 1, none⟩ (.slice Ao36 t373.length co36)).heap[gb377]? = some (.cells #[.int .i64 t372, .slice Ao36 t373.length co36] 53 (0, 0))) := ⟨zb174⟩
        have n6_ : Aside0 (Below w.heap.size w ((w34.setCell ⟨gb377, 0, none⟩ (.int .i64 t372)).setCell ⟨gb377, 1, none⟩ (.slice Ao36 t373.length co36))) := ⟨zb168⟩
        (try clear HO_360001)
        (try clear HO368)
        (try clear HO375)
        (try clear BK359)
        (try clear BK370)
        (try clear BK377)
        (try clear HB)
        generalize ((w34.setCell ⟨gb377, 0, none⟩ (.int .i64 t372)).setCell ⟨gb377, 1, none⟩ (.slice Ao36 t373.length co36)) = w43 at n0_ n1_ n2_ n3_ n4_ n5_ n6_ ⊢
        have HO_360001 := n0_
        have HO368 := n1_
        have HO375 := n2_
        have BK359 := n3_
        have BK370 := n4_
        have BK377 := n5_
        have HB := n6_
        clear n0_ n1_ n2_ n3_ n4_ n5_ n6_
        rename Nat => nd0
        have n0_ := Aside0.mk (Kd.R_drew (Kd.R_drewN HO_360001.out nd0))
        have n1_ := Aside0.mk (Kd.R_drew (Kd.R_drewN HO368.out nd0))
        have n2_ := Aside0.mk (Kd.R_drew (Kd.R_drewN HO375.out nd0))
        have n3_ := Aside0.mk (blk_drew (blk_drewN BK359.out nd0))
        have n4_ := Aside0.mk (blk_drew (blk_drewN BK370.out nd0))
        have n5_ := Aside0.mk (blk_drew (blk_drewN BK377.out nd0))
        have n6_ := Aside0.mk (below_drew1 (pw_below_drewN HB.out nd0))
        clear HO_360001
        clear HO368
        clear HO375
        clear BK359
        clear BK370
        clear BK377
        clear HB
        have HO_360001 := n0_
        have HO368 := n1_
        have HO375 := n2_
        have BK359 := n3_
        have BK370 := n4_
        have BK377 := n5_
        have HB := n6_
        clear n0_ n1_ n2_ n3_ n4_ n5_ n6_
        refine start_ (n := 13) (S := fun w' => w'.cell? ⟨gb359, 0, none⟩ = some (.int .i64 x360000_1) ∧ w'.cell? ⟨gb359, 1, none⟩ = some (.slice Ao22 x360001_1.length co22)) (ds := []) #[false, false, false, false, false, false, false, false, false, false, false, false, false] (by kernel_rfl) rfl rfl ⟨(blk_cell BK359.out 0).trans rfl, (blk_cell BK359.out 1).trans rfl⟩ (fun hHeld => ?_); refine with_tabW laws_FnMarks.tab13 laws_FnMarks.bits13 (fun HT_ HW_ => ?_)
        generalize (w43.drewN nd0).drew = w44 at HO_360001 HO368 HO375 BK359 BK370 BK377 HB hHeld ⊢
        refine pz 1 69 (bz 13 2) rfl rfl ?_
        refine pz 2 70 (bz 13 6) rfl rfl ?_
        refine pz 3 71 (bz 13 14) rfl rfl ?_
        refine pz 4 72 (bz 13 30) rfl rfl ?_
        refine tz 0 68 (bz 13 31) rfl rfl (Or.inl ⟨by rfl, by rintro w' ⟨s0, s1⟩; go_simp; with_reducible rfl⟩) hHeld ?_
        refine one_ (i := 5) (N := some 73) (bz 13 63) rfl rfl (one_of HT_.out (by kernel_rfl)) (by decide) (fun K hK => ?_)
        refine goes_ Try.func30 (by kernel_rfl) rfl #[.slice A0 l0.length c0, .int .i64 (wrap64 (x6_1 + 4)), .int .i64 2] (by rfl) rfl rfl (zb10) ?_
        with_reducible refine (laws_pick.calls k1 _ _ l0 (wrap64 (x6_1 + 4)) 2 t379 _ ?side1 ?side2 A39.out).mono ?_
        (case side1 => exact zb121)
        (case side2 => exact HC0.out)
        rintro e w' ⟨rfl, ⟨nd, rfl⟩⟩
        refine ⟨_, rfl, ?_⟩
        refine hK.out _ _ ⟨(blk_cell BK359.out 0).trans rfl, (blk_cell BK359.out 1).trans rfl⟩ (fun hHeld => ?_)
        clear hK K
        refine norm_ (a' := ?_) ?_ ?_
        rotate_left
        ·show Act.put _ (some 73) _ = _
         simp only [Act.put, List.setIfInBounds_toArray, List.set_cons_zero, List.set_cons_succ, i64_w, i32_w]
         rfl
        refine pz 6 74 (bz 13 127) rfl rfl ?_
        refine one_ (i := 7) (N := some 75) (bz 13 255) rfl rfl (one_of HT_.out (by kernel_rfl)) (by decide) (fun K hK => ?_)
        refine goes_ Try.func33 (by kernel_rfl) rfl #[.agg #[.int .i64 x360000_1, .slice Ao22 x360001_1.length co22], .int .i64 t363, .bool (t379 == 0)] (by rfl) rfl rfl (zb10) ?_
        with_reducible refine (impl_MarkIdle.calls k1 x360000_1 _ _ x360001_1 t363 (t379 == 0) t380 t381 t384 _ ?side1 ?side2 A40.out).mono ?_
        (case side1 => exact zb157)
        (case side2 => exact (Kd.R_reads' HO_360001.out).2.1)
        rintro e w45 ⟨v382, rfl, ho0, hb⟩
        refine ⟨_, rfl, ?_⟩
        have n0_ := Aside0.mk (Kd.R_elder' (zb156) (Kd.R_base ho0) hb)
        have n1_ := Aside0.mk (Kd.R_elder' (zb158) (Kd.R_base ho0) hb)
        have n2_ := Aside0.mk (Kd.R_elder' (zb164) (Kd.R_base ho0) hb)
        have n3_ := Aside0.mk (Kd.R_lower (Kd.R_new' (Kd.R_new' (Kd.R_new' ho0 (Kd.R_lt (zb156))) (Kd.R_lt (zb158))) (Kd.R_lt (zb164))) (below_size (zb168)))
        have n4_ := Aside0.mk (blk_below (g := gb359) (o := .cells #[.int .i64 x360000_1, .slice Ao22 x360001_1.length co22] 53 (0, 0)) (zb155) hb)
        have n5_ := Aside0.mk (blk_below (g := gb370) (o := .cells #[.int .i64 t365, .slice Ao28 t366.length co28] 53 (0, 0)) (zb161) hb)
        have n6_ := Aside0.mk (blk_below (g := gb377) (o := .cells #[.int .i64 t372, .slice Ao36 t373.length co36] 53 (0, 0)) (zb167) hb)
        have n7_ := Aside0.mk (below_step (zb168) hb)
        clear HO_360001
        clear HO368
        clear HO375
        clear BK359
        clear BK370
        clear BK377
        clear HB
        have HO_360001 := n0_
        have HO368 := n1_
        have HO375 := n2_
        have HO383 := n3_
        have BK359 := n4_
        have BK370 := n5_
        have BK377 := n6_
        have HB := n7_
        clear n0_ n1_ n2_ n3_ n4_ n5_ n6_ n7_
        (try clear hb)
        (try clear hb2)
        (try clear hk)
        (try clear hi)
        (try clear ho0)
        obtain ⟨Ao47, co47, eo47⟩ := Kd.R_slice HO383.out
        (first | subst eo47 | (injection eo47 with f1_ f2_ f3_; have f4_ := f1_.symm; have f5_ := f3_.symm; clear f1_ f2_ f3_; subst f4_; subst f5_))
        refine hK.out _ _ ⟨(blk_cell BK359.out 0).trans rfl, (blk_cell BK359.out 1).trans rfl⟩ (fun hHeld => ?_)
        clear hK K
        refine norm_ (a' := ?_) ?_ ?_
        rotate_left
        ·show Act.put _ (some 75) _ = _
         simp only [Act.put, List.setIfInBounds_toArray, List.set_cons_zero, List.set_cons_succ, i64_w, i32_w]
         rfl
        refine pz 8 67 (bz 13 511) rfl rfl ?_
        refine pz 9 76 (bz 13 1023) rfl rfl ?_
        refine pz 10 77 (bz 13 2047) rfl rfl ?_
        refine one_ (i := 11) (N := none) (bz 13 4095) rfl rfl (one_of HT_.out (by kernel_rfl)) (by decide) (fun K hK => ?_)
        have hs46 : w45.cell? ⟨gb370, 0, none⟩ = some (.int .i64 t365) := (blk_cell BK370.out 0).trans rfl
        have hfs46 := blk_frozen BK370.out 0
        have hns46_0 := NB359_370.out
        have hns46_2 := NB377_370.out
        have hms46_0 := NB370_359.out
        have hms46_2 := NB370_377.out
        have hs48 : w45.cell? ⟨gb370, 1, none⟩ = some (.slice Ao28 t366.length co28) := (blk_cell BK370.out 1).trans rfl
        have hfs48 := blk_frozen BK370.out 1
        have hns48_0 := NB359_370.out
        have hns48_2 := NB377_370.out
        have hms48_0 := NB370_359.out
        have hms48_2 := NB370_377.out
        refine skip_ (w1 := ?_) (by rfl) rfl ?_ ?_
        rotate_left
        ·go_simp
         rfl
        refine hK.out _ _ ⟨((cell_far (p := ⟨gb370, _, none⟩) NB359_370.out _).trans (((cell_far (p := ⟨gb370, _, none⟩) NB359_370.out _).trans (hHeld.1)))), ((cell_far (p := ⟨gb370, _, none⟩) NB359_370.out _).trans (((cell_far (p := ⟨gb370, _, none⟩) NB359_370.out _).trans (hHeld.2))))⟩ (fun hHeld => ?_)
        clear hK K
        refine pz 12 9 (bz 13 8191) rfl rfl ?_
        refine done_ (done_of HT_.out (by kernel_rfl)) ?_
        try go_wp2
        have n0_ : Aside0 (Kd.R k63 63 ((w45.setCell ⟨gb370, 0, none⟩ (.int .i64 t380)).setCell ⟨gb370, 1, none⟩ (.slice Ao47 t381.length co47)) w.heap.size (fun k_ => some k_ ≠ (.slice Ao28 t366.length co28 : Value).ownBlock ∧ some k_ ≠ (.slice Ao36 t373.length co36 : Value).ownBlock ∧ some k_ ≠ (.slice Ao47 t381.length co47 : Value).ownBlock) (.slice Ao22 x360001_1.length co22) x360001_1) := ⟨by (with_reducible repeat (first | apply Kd.R_alloc | apply Kd.R_drewN | apply Kd.R_drew)); exact Kd.R_mono (Kd.R_far (p := ⟨gb370, 1, none⟩) (Kd.R_far (p := ⟨gb370, 0, none⟩) (Kd.R_types HO_360001.out BK370.out (by decide)) (fun _ hk => hk.2) (.int .i64 t380)) (fun _ hk => hk.2) (.slice Ao47 t381.length co47)) (fun _ hk => ⟨hk.1.1.1, ⟨hk.1.1.2, hk.1.2⟩⟩)⟩
        have n1_ : Aside0 (Kd.R k63 63 ((w45.setCell ⟨gb370, 0, none⟩ (.int .i64 t380)).setCell ⟨gb370, 1, none⟩ (.slice Ao47 t381.length co47)) w.heap.size (fun k_ => some k_ ≠ (.slice Ao22 x360001_1.length co22 : Value).ownBlock ∧ some k_ ≠ (.slice Ao36 t373.length co36 : Value).ownBlock ∧ some k_ ≠ (.slice Ao47 t381.length co47 : Value).ownBlock) (.slice Ao28 t366.length co28) t366) := ⟨by (with_reducible repeat (first | apply Kd.R_alloc | apply Kd.R_drewN | apply Kd.R_drew)); exact Kd.R_mono (Kd.R_far (p := ⟨gb370, 1, none⟩) (Kd.R_far (p := ⟨gb370, 0, none⟩) (Kd.R_types HO368.out BK370.out (by decide)) (fun _ hk => hk.2) (.int .i64 t380)) (fun _ hk => hk.2) (.slice Ao47 t381.length co47)) (fun _ hk => ⟨hk.1.1.1, ⟨hk.1.1.2, hk.1.2⟩⟩)⟩
        have n2_ : Aside0 (Kd.R k63 63 ((w45.setCell ⟨gb370, 0, none⟩ (.int .i64 t380)).setCell ⟨gb370, 1, none⟩ (.slice Ao47 t381.length co47)) w.heap.size (fun k_ => some k_ ≠ (.slice Ao22 x360001_1.length co22 : Value).ownBlock ∧ some k_ ≠ (.slice Ao28 t366.length co28 : Value).ownBlock ∧ some k_ ≠ (.slice Ao47 t381.length co47 : Value).ownBlock) (.slice Ao36 t373.length co36) t373) := ⟨by (with_reducible repeat (first | apply Kd.R_alloc | apply Kd.R_drewN | apply Kd.R_drew)); exact Kd.R_mono (Kd.R_far (p := ⟨gb370, 1, none⟩) (Kd.R_far (p := ⟨gb370, 0, none⟩) (Kd.R_types HO375.out BK370.out (by decide)) (fun _ hk => hk.2) (.int .i64 t380)) (fun _ hk => hk.2) (.slice Ao47 t381.length co47)) (fun _ hk => ⟨hk.1.1.1, ⟨hk.1.1.2, hk.1.2⟩⟩)⟩
        have n3_ : Aside0 (Kd.R k63 63 ((w45.setCell ⟨gb370, 0, none⟩ (.int .i64 t380)).setCell ⟨gb370, 1, none⟩ (.slice Ao47 t381.length co47)) w.heap.size (fun k_ => some k_ ≠ (.slice Ao22 x360001_1.length co22 : Value).ownBlock ∧ some k_ ≠ (.slice Ao28 t366.length co28 : Value).ownBlock ∧ some k_ ≠ (.slice Ao36 t373.length co36 : Value).ownBlock) (.slice Ao47 t381.length co47) t381) := ⟨by (with_reducible repeat (first | apply Kd.R_alloc | apply Kd.R_drewN | apply Kd.R_drew)); exact Kd.R_mono (Kd.R_far (p := ⟨gb370, 1, none⟩) (Kd.R_far (p := ⟨gb370, 0, none⟩) (Kd.R_types HO383.out BK370.out (by decide)) (fun _ hk => hk.2) (.int .i64 t380)) (fun _ hk => hk.2) (.slice Ao47 t381.length co47)) (fun _ hk => ⟨hk.1.1.1.2, ⟨hk.1.1.2, hk.1.2⟩⟩)⟩
        have n4_ : Aside0 (((w45.setCell ⟨gb370, 0, none⟩ (.int .i64 t380)).setCell ⟨gb370, 1, none⟩ (.slice Ao47 t381.length co47)).heap[gb359]? = some (.cells #[.int .i64 x360000_1, .slice Ao22 x360001_1.length co22] 53 (0, 0))) := ⟨zb163⟩
        have n5_ : Aside0 (((w45.setCell ⟨gb370, 0, none⟩ (.int .i64 t380)).setCell ⟨gb370, 1, none⟩ (.slice Ao47 t381.length co47)).heap[gb370]? = some (.cells #[.int .i64 t380, .slice Ao47 t381.length co47] 53 (0, 0))) := ⟨by (with_reducible repeat (first | refine blk_drewN ?_ _ | refine blk_drew ?_ | refine blk_alloc ?_ _)); refine blk_put (cs := #[.int .i64 t380, .slice Ao28 t366.length co28]) ?_ 1 _ rfl; (with_reducible repeat (first | refine blk_drewN ?_ _ | refine blk_drew ?_ | refine blk_alloc ?_ _)); refine blk_put (cs := #[.int .i64 t365, .slice Ao28 t366.length co28]) ?_ 0 _ rfl; (with_reducible repeat (first | refine blk_drewN ?_ _ | refine blk_drew ?_ | refine blk_alloc ?_ _)); exact BK370.out⟩
        have n6_ : Aside0 (((w45.setCell ⟨gb370, 0, none⟩ (.int .i64 t380)).setCell ⟨gb370, 1, none⟩ (.slice Ao47 t381.length co47)).heap[gb377]? = some (.cells #[.int .i64 t372, .slice Ao36 t373.length co36] 53 (0, 0))) := ⟨by (with_reducible repeat (first | refine blk_drewN ?_ _ | refine blk_drew ?_ | refine blk_alloc ?_ _)); refine blk_far ?_ NB377_370.out _; (with_reducible repeat (first | refine blk_drewN ?_ _ | refine blk_drew ?_ | refine blk_alloc ?_ _)); refine blk_far ?_ NB377_370.out _; (with_reducible repeat (first | refine blk_drewN ?_ _ | refine blk_drew ?_ | refine blk_alloc ?_ _)); exact BK377.out⟩
        have n7_ : Aside0 (Below w.heap.size w ((w45.setCell ⟨gb370, 0, none⟩ (.int .i64 t380)).setCell ⟨gb370, 1, none⟩ (.slice Ao47 t381.length co47))) := ⟨zb168⟩
        (try clear HO_360001)
        (try clear HO368)
        (try clear HO375)
        (try clear HO383)
        (try clear BK359)
        (try clear BK370)
        (try clear BK377)
        (try clear HB)
        generalize ((w45.setCell ⟨gb370, 0, none⟩ (.int .i64 t380)).setCell ⟨gb370, 1, none⟩ (.slice Ao47 t381.length co47)) = w49 at n0_ n1_ n2_ n3_ n4_ n5_ n6_ n7_ ⊢
        have HO_360001 := n0_
        have HO368 := n1_
        have HO375 := n2_
        have HO383 := n3_
        have BK359 := n4_
        have BK370 := n5_
        have BK377 := n6_
        have HB := n7_
        clear n0_ n1_ n2_ n3_ n4_ n5_ n6_ n7_
        have n0_ := Aside0.mk (Kd.R_drew HO_360001.out)
        have n1_ := Aside0.mk (Kd.R_drew HO368.out)
        have n2_ := Aside0.mk (Kd.R_drew HO375.out)
        have n3_ := Aside0.mk (Kd.R_drew HO383.out)
        have n4_ := Aside0.mk (blk_drew BK359.out)
        have n5_ := Aside0.mk (blk_drew BK370.out)
        have n6_ := Aside0.mk (blk_drew BK377.out)
        have n7_ := Aside0.mk (below_drew1 HB.out)
        clear HO_360001
        clear HO368
        clear HO375
        clear HO383
        clear BK359
        clear BK370
        clear BK377
        clear HB
        have HO_360001 := n0_
        have HO368 := n1_
        have HO375 := n2_
        have HO383 := n3_
        have BK359 := n4_
        have BK370 := n5_
        have BK377 := n6_
        have HB := n7_
        clear n0_ n1_ n2_ n3_ n4_ n5_ n6_ n7_
        refine start_ (n := 13) (S := fun w' => w'.cell? ⟨gb359, 0, none⟩ = some (.int .i64 x360000_1) ∧ w'.cell? ⟨gb359, 1, none⟩ = some (.slice Ao22 x360001_1.length co22)) (ds := []) #[false, false, false, false, false, false, false, false, false, false, false, false, false] (by kernel_rfl) rfl rfl ⟨(blk_cell BK359.out 0).trans rfl, (blk_cell BK359.out 1).trans rfl⟩ (fun hHeld => ?_); refine with_tabW laws_FnMarks.tab14 laws_FnMarks.bits14 (fun HT_ HW_ => ?_)
        generalize w49.drew = w50 at HO_360001 HO368 HO375 HO383 BK359 BK370 BK377 HB hHeld ⊢
        refine pz 1 80 (bz 13 2) rfl rfl ?_
        refine pz 2 81 (bz 13 6) rfl rfl ?_
        refine pz 3 82 (bz 13 14) rfl rfl ?_
        refine pz 4 83 (bz 13 30) rfl rfl ?_
        refine tz 0 79 (bz 13 31) rfl rfl (Or.inl ⟨by rfl, by rintro w' ⟨s0, s1⟩; go_simp; with_reducible rfl⟩) hHeld ?_
        refine one_ (i := 5) (N := some 84) (bz 13 63) rfl rfl (one_of HT_.out (by kernel_rfl)) (by decide) (fun K hK => ?_)
        refine goes_ Try.func30 (by kernel_rfl) rfl #[.slice A0 l0.length c0, .int .i64 (wrap64 (x6_1 + 4)), .int .i64 2] (by rfl) rfl rfl (zb10) ?_
        with_reducible refine (laws_pick.calls k1 _ _ l0 (wrap64 (x6_1 + 4)) 2 t385 _ ?side1 ?side2 A41.out).mono ?_
        (case side1 => exact zb121)
        (case side2 => exact HC0.out)
        rintro e w' ⟨rfl, ⟨nd, rfl⟩⟩
        refine ⟨_, rfl, ?_⟩
        refine hK.out _ _ ⟨(blk_cell BK359.out 0).trans rfl, (blk_cell BK359.out 1).trans rfl⟩ (fun hHeld => ?_)
        clear hK K
        refine norm_ (a' := ?_) ?_ ?_
        rotate_left
        ·show Act.put _ (some 84) _ = _
         simp only [Act.put, List.setIfInBounds_toArray, List.set_cons_zero, List.set_cons_succ, i64_w, i32_w]
         rfl
        refine pz 6 85 (bz 13 127) rfl rfl ?_
        refine one_ (i := 7) (N := some 86) (bz 13 255) rfl rfl (one_of HT_.out (by kernel_rfl)) (by decide) (fun K hK => ?_)
        refine goes_ Try.func34 (by kernel_rfl) rfl #[.agg #[.int .i64 x360000_1, .slice Ao22 x360001_1.length co22], .int .i64 t363, .bool (t385 == 0)] (by rfl) rfl rfl (zb10) ?_
        with_reducible refine (spec_MarkIdle.calls k1 x360000_1 _ _ x360001_1 t363 (t385 == 0) t386 t387 t390 _ ?side1 ?side2 A42.out).mono ?_
        (case side1 => exact zb157)
        (case side2 => exact (Kd.R_reads' HO_360001.out).2.1)
        rintro e w51 ⟨v388, rfl, ho0, hb⟩
        refine ⟨_, rfl, ?_⟩
        have n0_ := Aside0.mk (Kd.R_elder' (zb156) (Kd.R_base ho0) hb)
        have n1_ := Aside0.mk (Kd.R_elder' (zb158) (Kd.R_base ho0) hb)
        have n2_ := Aside0.mk (Kd.R_elder' (zb164) (Kd.R_base ho0) hb)
        have n3_ := Aside0.mk (Kd.R_elder' (by (with_reducible repeat (first | apply Kd.R_alloc | apply Kd.R_drewN | apply Kd.R_drew)); exact HO383.out) (Kd.R_base ho0) hb)
        have n4_ := Aside0.mk (Kd.R_lower (Kd.R_new' (Kd.R_new' (Kd.R_new' (Kd.R_new' ho0 (Kd.R_lt (zb156))) (Kd.R_lt (zb158))) (Kd.R_lt (zb164))) (Kd.R_lt (by (with_reducible repeat (first | apply Kd.R_alloc | apply Kd.R_drewN | apply Kd.R_drew)); exact HO383.out))) (below_size (zb168)))
        have n5_ := Aside0.mk (blk_below (g := gb359) (o := .cells #[.int .i64 x360000_1, .slice Ao22 x360001_1.length co22] 53 (0, 0)) (zb155) hb)
        have n6_ := Aside0.mk (blk_below (g := gb370) (o := .cells #[.int .i64 t380, .slice Ao47 t381.length co47] 53 (0, 0)) (zb161) hb)
        have n7_ := Aside0.mk (blk_below (g := gb377) (o := .cells #[.int .i64 t372, .slice Ao36 t373.length co36] 53 (0, 0)) (zb167) hb)
        have n8_ := Aside0.mk (below_step (zb168) hb)
        clear HO_360001
        clear HO368
        clear HO375
        clear HO383
        clear BK359
        clear BK370
        clear BK377
        clear HB
        have HO_360001 := n0_
        have HO368 := n1_
        have HO375 := n2_
        have HO383 := n3_
        have HO389 := n4_
        have BK359 := n5_
        have BK370 := n6_
        have BK377 := n7_
        have HB := n8_
        clear n0_ n1_ n2_ n3_ n4_ n5_ n6_ n7_ n8_
        (try clear hb)
        (try clear hb2)
        (try clear hk)
        (try clear hi)
        (try clear ho0)
        obtain ⟨Ao53, co53, eo53⟩ := Kd.R_slice HO389.out
        (first | subst eo53 | (injection eo53 with f1_ f2_ f3_; have f4_ := f1_.symm; have f5_ := f3_.symm; clear f1_ f2_ f3_; subst f4_; subst f5_))
        refine hK.out _ _ ⟨(blk_cell BK359.out 0).trans rfl, (blk_cell BK359.out 1).trans rfl⟩ (fun hHeld => ?_)
        clear hK K
        refine norm_ (a' := ?_) ?_ ?_
        rotate_left
        ·show Act.put _ (some 86) _ = _
         simp only [Act.put, List.setIfInBounds_toArray, List.set_cons_zero, List.set_cons_succ, i64_w, i32_w]
         rfl
        refine pz 8 78 (bz 13 511) rfl rfl ?_
        refine pz 9 87 (bz 13 1023) rfl rfl ?_
        refine pz 10 88 (bz 13 2047) rfl rfl ?_
        refine one_ (i := 11) (N := none) (bz 13 4095) rfl rfl (one_of HT_.out (by kernel_rfl)) (by decide) (fun K hK => ?_)
        have hs52 : w51.cell? ⟨gb377, 0, none⟩ = some (.int .i64 t372) := (blk_cell BK377.out 0).trans rfl
        have hfs52 := blk_frozen BK377.out 0
        have hns52_0 := NB359_377.out
        have hns52_1 := NB370_377.out
        have hms52_0 := NB377_359.out
        have hms52_1 := NB377_370.out
        have hs54 : w51.cell? ⟨gb377, 1, none⟩ = some (.slice Ao36 t373.length co36) := (blk_cell BK377.out 1).trans rfl
        have hfs54 := blk_frozen BK377.out 1
        have hns54_0 := NB359_377.out
        have hns54_1 := NB370_377.out
        have hms54_0 := NB377_359.out
        have hms54_1 := NB377_370.out
        refine skip_ (w1 := ?_) (by rfl) rfl ?_ ?_
        rotate_left
        ·go_simp
         rfl
        refine hK.out _ _ ⟨((cell_far (p := ⟨gb377, _, none⟩) NB359_377.out _).trans (((cell_far (p := ⟨gb377, _, none⟩) NB359_377.out _).trans (hHeld.1)))), ((cell_far (p := ⟨gb377, _, none⟩) NB359_377.out _).trans (((cell_far (p := ⟨gb377, _, none⟩) NB359_377.out _).trans (hHeld.2))))⟩ (fun hHeld => ?_)
        clear hK K
        refine pz 12 11 (bz 13 8191) rfl rfl ?_
        refine done_ (done_of HT_.out (by kernel_rfl)) ?_
        try go_wp2
        go_meet
        case rel => exact ⟨_, (t384), (t390), (t380), (t381), (t386), (t387), (.slice Ao47 t381.length co47), (.slice Ao53 t387.length co53), (zb1), (zb1), H', ⟨zb15⟩, ⟨by (with_reducible repeat (first | apply Kd.R_alloc | apply Kd.R_drewN | apply Kd.R_drew)); exact Kd.R_mono (Kd.R_far (p := ⟨gb377, 1, none⟩) (Kd.R_far (p := ⟨gb377, 0, none⟩) (Kd.R_types HO_360001.out BK377.out (by decide)) (fun _ hk => hk.2) (.int .i64 t386)) (fun _ hk => hk.2) (.slice Ao53 t387.length co53)) (fun _ hk => ⟨hk.1.1.2.2, hk.1.2⟩)⟩, ⟨by (with_reducible repeat (first | apply Kd.R_alloc | apply Kd.R_drewN | apply Kd.R_drew)); exact Kd.R_mono (Kd.R_far (p := ⟨gb377, 1, none⟩) (Kd.R_far (p := ⟨gb377, 0, none⟩) (Kd.R_types HO383.out BK377.out (by decide)) (fun _ hk => hk.2) (.int .i64 t386)) (fun _ hk => hk.2) (.slice Ao53 t387.length co53)) (fun _ hk => ⟨hk.1.1.1, hk.1.2⟩)⟩, ⟨by (with_reducible repeat (first | apply Kd.R_alloc | apply Kd.R_drewN | apply Kd.R_drew)); exact Kd.R_mono (Kd.R_far (p := ⟨gb377, 1, none⟩) (Kd.R_far (p := ⟨gb377, 0, none⟩) (Kd.R_types HO389.out BK377.out (by decide)) (fun _ hk => hk.2) (.int .i64 t386)) (fun _ hk => hk.2) (.slice Ao53 t387.length co53)) (fun _ hk => ⟨hk.1.1.1.1.2, hk.1.2⟩)⟩, ⟨zb172⟩, ⟨zb173⟩, ⟨by (with_reducible repeat (first | refine blk_drewN ?_ _ | refine blk_drew ?_ | refine blk_alloc ?_ _)); refine blk_put (cs := #[.int .i64 t386, .slice Ao36 t373.length co36]) ?_ 1 _ rfl; (with_reducible repeat (first | refine blk_drewN ?_ _ | refine blk_drew ?_ | refine blk_alloc ?_ _)); refine blk_put (cs := #[.int .i64 t372, .slice Ao36 t373.length co36]) ?_ 0 _ rfl; (with_reducible repeat (first | refine blk_drewN ?_ _ | refine blk_drew ?_ | refine blk_alloc ?_ _)); exact BK377.out⟩, ⟨zb168⟩⟩
       ·rw [if_neg c38] at H
        have c38b0 : (t378 == 0) = false := beq_eq_false_iff_ne.mpr c38
        have c38b1 : (t378 != 0) = true := bne_iff_ne.mpr c38
        (first | rw [c38b0] | (simp only [i64_w, i32_w]; rw [c38b0]) | skip)
        have H' := Aside0.mk H
        clear H
        go_wp2
        go_meet
        case rel => exact ⟨_, (t369), (t376), (t365), (t366), (t372), (t373), (.slice Ao28 t366.length co28), (.slice Ao36 t373.length co36), (zb1), (zb1), H', ⟨zb15⟩, ⟨zb169⟩, ⟨zb170⟩, ⟨zb171⟩, ⟨zb172⟩, ⟨zb173⟩, ⟨zb174⟩, ⟨zb168⟩⟩
      case rest =>
       clear HC20
       try clear p2
       try clear c3
       try clear p6
       try clear c30
       try clear c33
       try clear c34
       try clear c38
       try clear c38b0
       try clear c38b1
       obtain ⟨kq, x9_19, x11_19, x371000_19, x371001_19, x378000_19, x378001_19, u371001, u378001, rfl, rfl, HA, HJ19, HO_360001, HO_371001, HO_378001, BK359, BK370, BK377, HB⟩ := hcut
       cases kq with
       | zero => exact absurd HA.out (by simp [laws_FnMarks.j1])
       | succ kj19 =>
        have H := HA.out
        clear HA
        simp only [laws_FnMarks.j1] at H
        have HC55 := Aside0.mk H
        clear H
        go_upto_region 15 with (fail)
        go_cut [98] (fun v98 wc => ∃ (kq : Nat) (x98_54 : Bool), v98 = .bool x98_54 ∧ Aside0 (laws_FnMarks.j2 kq l0 x6_1 t363 x9_19 x98_54 x360000_1 x360001_1 x371000_19 x371001_19 = some r) ∧ Aside0 (kq ≤ kj19) ∧ Aside0 (Kd.R k63 63 wc w.heap.size (fun k_ => some k_ ≠ (u371001 : Value).ownBlock ∧ some k_ ≠ (u378001 : Value).ownBlock) (.slice Ao22 x360001_1.length co22) x360001_1) ∧ Aside0 (Kd.R k63 63 wc w.heap.size (fun k_ => some k_ ≠ ((.slice Ao22 x360001_1.length co22) : Value).ownBlock ∧ some k_ ≠ (u378001 : Value).ownBlock) u371001 x371001_19) ∧ Aside0 (Kd.R k63 63 wc w.heap.size (fun k_ => some k_ ≠ ((.slice Ao22 x360001_1.length co22) : Value).ownBlock ∧ some k_ ≠ (u371001 : Value).ownBlock) u378001 x378001_19) ∧ Aside0 (wc.heap[gb359]? = some (.cells #[.int .i64 x360000_1, (.slice Ao22 x360001_1.length co22)] 53 (0, 0))) ∧ Aside0 (wc.heap[gb370]? = some (.cells #[.int .i64 x371000_19, u371001] 53 (0, 0))) ∧ Aside0 (wc.heap[gb377]? = some (.cells #[.int .i64 x378000_19, u378001] 53 (0, 0))) ∧ Aside0 (Below w.heap.size w wc))
        case first =>
         have H := HC55.out
         clear HC55
         by_cases c56 : x9_19 = x11_19
         ·rw [if_pos c56] at H
          have c56b0 : (x9_19 == x11_19) = true := beq_iff_eq.mpr c56
          have c56b1 : (x9_19 != x11_19) = false := bne_eq_false_iff_eq.mpr c56
          clear c56
          (first | rw [c56b0] | (simp only [i64_w, i32_w]; rw [c56b0]) | skip)
          have H' := Aside0.mk H
          clear H
          have hnb57 := NB370_359.out
          have hnc57 := NB359_370.out
          have hnb58 := NB370_377.out
          have hnc58 := NB377_370.out
          have hcz59_0 : wc.cell? ⟨gb370, 0, none⟩ = some (.int .i64 x371000_19) := (blk_cell BK370.out 0).trans rfl
          have hcz59_1 : wc.cell? ⟨gb370, 1, none⟩ = some (u371001) := (blk_cell BK370.out 1).trans rfl
          have hfz59_0 := blk_frozen BK370.out 0
          have hfz59_1 := blk_frozen BK370.out 1
          have hnb60 := NB377_359.out
          have hnc60 := NB359_377.out
          have hcz61_0 : wc.cell? ⟨gb377, 0, none⟩ = some (.int .i64 x378000_19) := (blk_cell BK377.out 0).trans rfl
          have hcz61_1 : wc.cell? ⟨gb377, 1, none⟩ = some (u378001) := (blk_cell BK377.out 1).trans rfl
          have hfz61_0 := blk_frozen BK377.out 0
          have hfz61_1 := blk_frozen BK377.out 1
          go_wp2
          go_meet
          case rel => exact ⟨_, ((x371000_19 != x378000_19)), (zb1), H', ⟨by have := HK1.out; have := HJ19.out; first | omega | exact Nat.le_refl _⟩, ⟨zb156⟩, ⟨zb175⟩, ⟨zb176⟩, ⟨zb155⟩, ⟨zb161⟩, ⟨zb167⟩, ⟨zb168⟩⟩
         ·rw [if_neg c56] at H
          have c56b0 : (x9_19 == x11_19) = false := beq_eq_false_iff_ne.mpr c56
          have c56b1 : (x9_19 != x11_19) = true := bne_iff_ne.mpr c56
          (first | rw [c56b0] | (simp only [i64_w, i32_w]; rw [c56b0]) | skip)
          have H' := Aside0.mk H
          clear H
          go_wp2
          go_meet
          case rel => exact ⟨_, (true), (zb1), H', ⟨by have := HK1.out; have := HJ19.out; first | omega | exact Nat.le_refl _⟩, ⟨zb156⟩, ⟨zb175⟩, ⟨zb176⟩, ⟨zb155⟩, ⟨zb161⟩, ⟨zb167⟩, ⟨zb168⟩⟩
        case rest =>
         clear HC55
         try clear p2
         try clear c3
         try clear c5
         try clear c6
         try clear p6
         try clear c30
         try clear c33
         try clear c34
         try clear c38
         try clear c38b0
         try clear c38b1
         try clear c56
         try clear c56b0
         try clear c56b1
         try clear c57
         try clear c58
         try clear c60
         try clear hcz59_0
         try clear hcz59_1
         try clear hcz61_0
         try clear hcz61_1
         try clear hfz59_0
         try clear hfz59_1
         try clear hfz61_0
         try clear hfz61_1
         try clear p2
         try clear p6
         obtain ⟨kq, x98_54, rfl, HA, HJ54, HO_360001, HO_371001, HO_378001, BK359, BK370, BK377, HB⟩ := hcut
         cases kq with
         | zero => exact absurd HA.out (by simp [laws_FnMarks.j2])
         | succ kj54 =>
          have H := HA.out
          clear HA
          simp only [laws_FnMarks.j2] at H
          by_cases c62 : x98_54 = true
          ·subst c62
           have H1 : (some false) = some r := by rw [if_pos rfl] at H; exact H
           clear H
           have H := H1
           clear H1
           obtain rfl := Option.some.inj H
           go_wp2
           go_ret
           exact ⟨zb177, zb168⟩
          ·replace c62 := Bool.eq_false_iff.mpr c62
           subst c62
           have H1 : (if x9_19 = 0 then (if x371000_19 < x360000_1 then (laws_FnMarks.j3 kj54 l0 x6_1 true x371000_19 x371001_19) else ((impl_MarksLeast.f kj54 x371000_19 x371001_19).bind fun t391 => (if x371000_19 < t391 then (laws_FnMarks.j3 kj54 l0 x6_1 true x371000_19 x371001_19) else ((spec_MarksOk.f kj54 x371000_19 x371001_19).bind fun t392 => (if t392 = true then (if 0 ≤ t363 then (if t363 < (x371001_19.length : Int) then (if t363 < (x360001_1.length : Int) then (if ((rd_T63 x371001_19 t363).f0) < ((rd_T63 x360001_1 t363).f0) then (laws_FnMarks.j3 kj54 l0 x6_1 true x371000_19 x371001_19) else ((impl_MarksLate.f kj54 x371000_19 x371001_19 x371000_19).bind fun t395 => (if t395 = true then (laws_FnMarks.j3 kj54 l0 x6_1 true x371000_19 x371001_19) else (if x371000_19 > 0 then ((impl_MarksLate.f kj54 x371000_19 x371001_19 (wrap64 (x371000_19 - 1))).bind fun t396 => (laws_FnMarks.j3 kj54 l0 x6_1 (!t396) x371000_19 x371001_19)) else (laws_FnMarks.j3 kj54 l0 x6_1 false x371000_19 x371001_19))))) else (none)) else (none)) else (none)) else (laws_FnMarks.j3 kj54 l0 x6_1 true x371000_19 x371001_19)))))) else (laws_FnMarks.l0 kj54 l0 (wrap64 (x6_1 + 1)) x360000_1 x360001_1)) = some r := by rw [if_neg (show ¬ (false = true) by decide)] at H; exact H
           clear H
           have H := H1
           clear H1
           by_cases c63 : x9_19 = 0
           ·as_aux_lemma =>
            rw [if_pos c63] at H
            have c63b0 : (x9_19 == 0) = true := beq_iff_eq.mpr c63
            have c63b1 : (x9_19 != 0) = false := bne_eq_false_iff_eq.mpr c63
            clear c63
            have HC64 := Aside0.mk H
            clear H
            go_upto_region 18 with (fail)
            go_cut [151] (fun v151 wc => ∃ (kq : Nat) (x151_63 : Bool), v151 = .bool x151_63 ∧ Aside0 (laws_FnMarks.j3 kq l0 x6_1 x151_63 x371000_19 x371001_19 = some r) ∧ Aside0 (kq ≤ kj54) ∧ Aside0 (Kd.R k63 63 wc w.heap.size (fun k_ => some k_ ≠ (u371001 : Value).ownBlock ∧ some k_ ≠ (u378001 : Value).ownBlock) (.slice Ao22 x360001_1.length co22) x360001_1) ∧ Aside0 (Kd.R k63 63 wc w.heap.size (fun k_ => some k_ ≠ ((.slice Ao22 x360001_1.length co22) : Value).ownBlock ∧ some k_ ≠ (u378001 : Value).ownBlock) u371001 x371001_19) ∧ Aside0 (Kd.R k63 63 wc w.heap.size (fun k_ => some k_ ≠ ((.slice Ao22 x360001_1.length co22) : Value).ownBlock ∧ some k_ ≠ (u371001 : Value).ownBlock) u378001 x378001_19) ∧ Aside0 (wc.heap[gb359]? = some (.cells #[.int .i64 x360000_1, (.slice Ao22 x360001_1.length co22)] 53 (0, 0))) ∧ Aside0 (wc.heap[gb370]? = some (.cells #[.int .i64 x371000_19, u371001] 53 (0, 0))) ∧ Aside0 (wc.heap[gb377]? = some (.cells #[.int .i64 x378000_19, u378001] 53 (0, 0))) ∧ Aside0 (Below w.heap.size w wc))
            case first =>
             have H := HC64.out
             clear HC64
             by_cases c65 : x371000_19 < x360000_1
             ·as_aux_lemma =>
              rw [if_pos c65] at H
              have c65b0 : decide (x371000_19 < x360000_1) = true := decide_eq_true c65
              clear c65
              (first | rw [c65b0] | (simp only [i64_w, i32_w]; rw [c65b0]) | skip)
              have H' := Aside0.mk H
              clear H
              try go_wp2
              have n0_ := Aside0.mk (Kd.R_drew HO_360001.out)
              have n1_ := Aside0.mk (Kd.R_drew HO_371001.out)
              have n2_ := Aside0.mk (Kd.R_drew HO_378001.out)
              have n3_ := Aside0.mk (blk_drew BK359.out)
              have n4_ := Aside0.mk (blk_drew BK370.out)
              have n5_ := Aside0.mk (blk_drew BK377.out)
              have n6_ := Aside0.mk (below_drew1 HB.out)
              clear HO_360001
              clear HO_371001
              clear HO_378001
              clear BK359
              clear BK370
              clear BK377
              clear HB
              have HO_360001 := n0_
              have HO_371001 := n1_
              have HO_378001 := n2_
              have BK359 := n3_
              have BK370 := n4_
              have BK377 := n5_
              have HB := n6_
              clear n0_ n1_ n2_ n3_ n4_ n5_ n6_
              refine start_ (n := 51) (S := fun w' => w'.cell? ⟨gb370, 0, none⟩ = some (.int .i64 x371000_19) ∧ w'.cell? ⟨gb370, 1, none⟩ = some (u371001) ∧ w'.cell? ⟨gb359, 0, none⟩ = some (.int .i64 x360000_1) ∧ w'.cell? ⟨gb359, 1, none⟩ = some (.slice Ao22 x360001_1.length co22)) (ds := []) #[false, false, false, false, false, false, false, false, false, false, false, false, false, false, false, false, false, false, false, false, false, false, false, false, false, false, false, false, false, false, false, false, false, false, false, false, false, false, false, false, false, false, false, false, false, false, false, false, false, false, false] (by kernel_rfl) rfl rfl ⟨(blk_cell BK370.out 0).trans rfl, (blk_cell BK370.out 1).trans rfl, (blk_cell BK359.out 0).trans rfl, (blk_cell BK359.out 1).trans rfl⟩ (fun hHeld => ?_); refine with_tabW laws_FnMarks.tab18 laws_FnMarks.bits18 (fun HT_ HW_ => ?_)
              generalize wc.drew = w66 at HO_360001 HO_371001 HO_378001 BK359 BK370 BK377 HB hHeld ⊢
              refine pz 0 101 (bz 51 1) rfl rfl ?_
              refine pz 2 103 (bz 51 5) rfl rfl ?_
              refine tz 1 102 (bz 51 7) rfl rfl (Or.inl ⟨by rfl, by rintro w' ⟨s0, s1, s2, s3⟩; go_simp; with_reducible rfl⟩) hHeld ?_
              refine tz 3 104 (bz 51 15) rfl rfl (Or.inl ⟨by rfl, by rintro w' ⟨s0, s1, s2, s3⟩; go_simp; with_reducible rfl⟩) hHeld ?_
              refine pz 4 105 (bz 51 31) rfl rfl ?_
              refine pz 5 106 (bz 51 63) rfl rfl ?_
              refine pu 6 107 (bz 51 127) rfl rfl ?_
              refine pu 7 108 (bz 51 255) rfl rfl ?_
              refine pu 8 109 (bz 51 511) rfl rfl ?_
              refine pu 9 110 (bz 51 1023) rfl rfl ?_
              refine pu 10 111 (bz 51 2047) rfl rfl ?_
              refine pz 11 112 (bz 51 4095) rfl rfl ?_
              refine pz 12 113 (bz 51 8191) rfl rfl ?_
              refine pu 13 114 (bz 51 16383) rfl rfl ?_
              refine pu 14 115 (bz 51 32767) rfl rfl ?_
              refine pu 15 116 (bz 51 65535) rfl rfl ?_
              refine pz 16 117 (bz 51 131071) rfl rfl ?_
              refine pz 17 118 (bz 51 262143) rfl rfl ?_
              refine pu 18 119 (bz 51 524287) rfl rfl ?_
              refine pu 19 120 (bz 51 1048575) rfl rfl ?_
              refine pu 20 121 (bz 51 2097151) rfl rfl ?_
              refine pu 21 122 (bz 51 4194303) rfl rfl ?_
              refine pu 22 123 (bz 51 8388607) rfl rfl ?_
              refine pu 23 124 (bz 51 16777215) rfl rfl ?_
              refine pu 24 125 (bz 51 33554431) rfl rfl ?_
              refine pu 25 126 (bz 51 67108863) rfl rfl ?_
              refine pu 26 127 (bz 51 134217727) rfl rfl ?_
              refine pu 27 128 (bz 51 268435455) rfl rfl ?_
              refine pu 28 129 (bz 51 536870911) rfl rfl ?_
              refine pu 29 130 (bz 51 1073741823) rfl rfl ?_
              refine pu 30 131 (bz 51 2147483647) rfl rfl ?_
              refine pz 31 132 (bz 51 4294967295) rfl rfl ?_
              refine pz 32 133 (bz 51 8589934591) rfl rfl ?_
              refine pu 33 134 (bz 51 17179869183) rfl rfl ?_
              refine pu 34 135 (bz 51 34359738367) rfl rfl ?_
              refine pu 35 136 (bz 51 68719476735) rfl rfl ?_
              refine pu 36 137 (bz 51 137438953471) rfl rfl ?_
              refine pz 37 138 (bz 51 274877906943) rfl rfl ?_
              refine pz 38 139 (bz 51 549755813887) rfl rfl ?_
              refine pu 39 140 (bz 51 1099511627775) rfl rfl ?_
              refine pu 40 141 (bz 51 2199023255551) rfl rfl ?_
              refine pu 41 142 (bz 51 4398046511103) rfl rfl ?_
              refine pu 42 143 (bz 51 8796093022207) rfl rfl ?_
              refine pu 43 144 (bz 51 17592186044415) rfl rfl ?_
              refine pu 44 145 (bz 51 35184372088831) rfl rfl ?_
              refine pu 45 146 (bz 51 70368744177663) rfl rfl ?_
              refine pu 46 147 (bz 51 140737488355327) rfl rfl ?_
              refine pu 47 148 (bz 51 281474976710655) rfl rfl ?_
              refine pu 48 149 (bz 51 562949953421311) rfl rfl ?_
              refine pu 49 150 (bz 51 1125899906842623) rfl rfl ?_
              refine pz 50 151 (bz 51 2251799813685247) rfl rfl ?_
              refine done_ (done_of HT_.out (by kernel_rfl)) ?_
              try go_wp2
              go_meet
              case rel => exact ⟨_, (true), (zb1), H', ⟨zb178⟩, ⟨zb156⟩, ⟨zb175⟩, ⟨zb176⟩, ⟨zb155⟩, ⟨zb161⟩, ⟨zb167⟩, ⟨zb168⟩⟩
             ·as_aux_lemma =>
              rw [if_neg c65] at H
              have c65b0 : decide (x371000_19 < x360000_1) = false := decide_eq_false c65
              clear c65
              (first | rw [c65b0] | (simp only [i64_w, i32_w]; rw [c65b0]) | skip)
              replace H := Option.bind_eq_some_iff.mp H
              obtain ⟨t391, A670, H⟩ := H
              replace H : (if x371000_19 < t391 then (laws_FnMarks.j3 kj54 l0 x6_1 true x371000_19 x371001_19) else ((spec_MarksOk.f kj54 x371000_19 x371001_19).bind fun t392 => (if t392 = true then (if 0 ≤ t363 then (if t363 < (x371001_19.length : Int) then (if t363 < (x360001_1.length : Int) then (if ((rd_T63 x371001_19 t363).f0) < ((rd_T63 x360001_1 t363).f0) then (laws_FnMarks.j3 kj54 l0 x6_1 true x371000_19 x371001_19) else ((impl_MarksLate.f kj54 x371000_19 x371001_19 x371000_19).bind fun t395 => (if t395 = true then (laws_FnMarks.j3 kj54 l0 x6_1 true x371000_19 x371001_19) else (if x371000_19 > 0 then ((impl_MarksLate.f kj54 x371000_19 x371001_19 (wrap64 (x371000_19 - 1))).bind fun t396 => (laws_FnMarks.j3 kj54 l0 x6_1 (!t396) x371000_19 x371001_19)) else (laws_FnMarks.j3 kj54 l0 x6_1 false x371000_19 x371001_19))))) else (none)) else (none)) else (none)) else (laws_FnMarks.j3 kj54 l0 x6_1 true x371000_19 x371001_19)))) = some r := H
              have A67 := Aside0.mk A670
              clear A670
              by_cases c68 : x371000_19 < t391
              ·as_aux_lemma =>
               rw [if_pos c68] at H
               have c68b0 : decide (x371000_19 < t391) = true := decide_eq_true c68
               clear c68
               have H' := Aside0.mk H
               clear H
               try go_wp2
               have n0_ := Aside0.mk (Kd.R_drew HO_360001.out)
               have n1_ := Aside0.mk (Kd.R_drew HO_371001.out)
               have n2_ := Aside0.mk (Kd.R_drew HO_378001.out)
               have n3_ := Aside0.mk (blk_drew BK359.out)
               have n4_ := Aside0.mk (blk_drew BK370.out)
               have n5_ := Aside0.mk (blk_drew BK377.out)
               have n6_ := Aside0.mk (below_drew1 HB.out)
               clear HO_360001
               clear HO_371001
               clear HO_378001
               clear BK359
               clear BK370
               clear BK377
               clear HB
               have HO_360001 := n0_
               have HO_371001 := n1_
               have HO_378001 := n2_
               have BK359 := n3_
               have BK370 := n4_
               have BK377 := n5_
               have HB := n6_
               clear n0_ n1_ n2_ n3_ n4_ n5_ n6_
               obtain ⟨Ao70, co70, eo70⟩ := Kd.R_slice HO_371001.out
               (first | subst eo70 | (injection eo70 with f1_ f2_ f3_; have f4_ := f1_.symm; have f5_ := f3_.symm; clear f1_ f2_ f3_; subst f4_; subst f5_))
               refine start_ (n := 51) (S := fun w' => w'.cell? ⟨gb370, 0, none⟩ = some (.int .i64 x371000_19) ∧ w'.cell? ⟨gb370, 1, none⟩ = some (.slice Ao70 x371001_19.length co70) ∧ w'.cell? ⟨gb359, 0, none⟩ = some (.int .i64 x360000_1) ∧ w'.cell? ⟨gb359, 1, none⟩ = some (.slice Ao22 x360001_1.length co22)) (ds := []) #[false, false, false, false, false, false, false, false, false, false, false, false, false, false, false, false, false, false, false, false, false, false, false, false, false, false, false, false, false, false, false, false, false, false, false, false, false, false, false, false, false, false, false, false, false, false, false, false, false, false, false] (by kernel_rfl) rfl rfl ⟨(blk_cell BK370.out 0).trans rfl, (blk_cell BK370.out 1).trans rfl, (blk_cell BK359.out 0).trans rfl, (blk_cell BK359.out 1).trans rfl⟩ (fun hHeld => ?_); refine with_tabW laws_FnMarks.tab18 laws_FnMarks.bits18 (fun HT_ HW_ => ?_)
               generalize wc.drew = w69 at HO_360001 HO_371001 HO_378001 BK359 BK370 BK377 HB hHeld ⊢
               refine pz 0 101 (bz 51 1) rfl rfl ?_
               refine pz 2 103 (bz 51 5) rfl rfl ?_
               refine tz 1 102 (bz 51 7) rfl rfl (Or.inl ⟨by rfl, by rintro w' ⟨s0, s1, s2, s3⟩; go_simp; with_reducible rfl⟩) hHeld ?_
               refine tz 3 104 (bz 51 15) rfl rfl (Or.inl ⟨by rfl, by rintro w' ⟨s0, s1, s2, s3⟩; go_simp; with_reducible rfl⟩) hHeld ?_
               refine pz 4 105 (bz 51 31) rfl rfl ?_
               refine pz 5 106 (bz 51 63) rfl rfl ?_
               refine pz 6 107 (bz 51 127) rfl rfl ?_
               refine tz 7 108 (bz 51 255) rfl rfl (Or.inl ⟨by rfl, by rintro w' ⟨s0, s1, s2, s3⟩; go_simp; with_reducible rfl⟩) hHeld ?_
               refine tz 8 109 (bz 51 511) rfl rfl (Or.inl ⟨by rfl, by rintro w' ⟨s0, s1, s2, s3⟩; go_simp; with_reducible rfl⟩) hHeld ?_
               refine one_ (i := 9) (N := some 110) (bz 51 1023) rfl rfl (one_of HT_.out (by kernel_rfl)) (by decide) (fun K hK => ?_)
               refine goes_ Try.func35 (by kernel_rfl) rfl #[.agg #[.int .i64 x371000_19, .slice Ao70 x371001_19.length co70]] (by rfl) rfl rfl (zb10) ?_
               with_reducible refine (impl_MarksLeast.calls kj54 x371000_19 _ _ x371001_19 t391 _ ?side1 ?side2 A67.out).mono ?_
               (case side1 => exact zb179)
               (case side2 => exact (Kd.R_reads' HO_371001.out).2.1)
               rintro e w71 ⟨rfl, hb⟩
               refine ⟨_, rfl, ?_⟩
               have n0_ := Aside0.mk (Kd.R_below (zb156) hb)
               have n1_ := Aside0.mk (Kd.R_below (zb175) hb)
               have n2_ := Aside0.mk (Kd.R_below (zb176) hb)
               have n3_ := Aside0.mk (blk_below (g := gb359) (o := .cells #[.int .i64 x360000_1, .slice Ao22 x360001_1.length co22] 53 (0, 0)) (zb155) hb)
               have n4_ := Aside0.mk (blk_below (g := gb370) (o := .cells #[.int .i64 x371000_19, .slice Ao70 x371001_19.length co70] 53 (0, 0)) (zb161) hb)
               have n5_ := Aside0.mk (blk_below (g := gb377) (o := .cells #[.int .i64 x378000_19, u378001] 53 (0, 0)) (zb167) hb)
               have n6_ := Aside0.mk (below_step (zb168) hb)
               clear HO_360001
               clear HO_371001
               clear HO_378001
               clear BK359
               clear BK370
               clear BK377
               clear HB
               have HO_360001 := n0_
               have HO_371001 := n1_
               have HO_378001 := n2_
               have BK359 := n3_
               have BK370 := n4_
               have BK377 := n5_
               have HB := n6_
               clear n0_ n1_ n2_ n3_ n4_ n5_ n6_
               (try clear hb)
               (try clear hb2)
               (try clear hk)
               (try clear hi)
               refine hK.out _ _ ⟨(blk_cell BK370.out 0).trans rfl, (blk_cell BK370.out 1).trans rfl, (blk_cell BK359.out 0).trans rfl, (blk_cell BK359.out 1).trans rfl⟩ (fun hHeld => ?_)
               clear hK K
               refine norm_ (a' := ?_) ?_ ?_
               rotate_left
               ·show Act.put _ (some 110) _ = _
                simp only [Act.put, List.setIfInBounds_toArray, List.set_cons_zero, List.set_cons_succ, i64_w, i32_w]
                rfl
               refine pz 10 111 (bz 51 2047) rfl rfl ?_
               refine pz 11 112 (bz 51 4095) rfl rfl ?_
               refine pz 12 113 (bz 51 8191) rfl rfl ?_
               refine pu 13 114 (bz 51 16383) rfl rfl ?_
               refine pu 14 115 (bz 51 32767) rfl rfl ?_
               refine pu 15 116 (bz 51 65535) rfl rfl ?_
               refine pz 16 117 (bz 51 131071) rfl rfl ?_
               refine pz 17 118 (bz 51 262143) rfl rfl ?_
               refine pu 18 119 (bz 51 524287) rfl rfl ?_
               refine pu 19 120 (bz 51 1048575) rfl rfl ?_
               refine pu 20 121 (bz 51 2097151) rfl rfl ?_
               refine pu 21 122 (bz 51 4194303) rfl rfl ?_
               refine pu 22 123 (bz 51 8388607) rfl rfl ?_
               refine pu 23 124 (bz 51 16777215) rfl rfl ?_
               refine pu 24 125 (bz 51 33554431) rfl rfl ?_
               refine pu 25 126 (bz 51 67108863) rfl rfl ?_
               refine pu 26 127 (bz 51 134217727) rfl rfl ?_
               refine pu 27 128 (bz 51 268435455) rfl rfl ?_
               refine pu 28 129 (bz 51 536870911) rfl rfl ?_
               refine pu 29 130 (bz 51 1073741823) rfl rfl ?_
               refine pu 30 131 (bz 51 2147483647) rfl rfl ?_
               refine pz 31 132 (bz 51 4294967295) rfl rfl ?_
               refine pz 32 133 (bz 51 8589934591) rfl rfl ?_
               refine pu 33 134 (bz 51 17179869183) rfl rfl ?_
               refine pu 34 135 (bz 51 34359738367) rfl rfl ?_
               refine pu 35 136 (bz 51 68719476735) rfl rfl ?_
               refine pu 36 137 (bz 51 137438953471) rfl rfl ?_
               refine pz 37 138 (bz 51 274877906943) rfl rfl ?_
               refine pz 38 139 (bz 51 549755813887) rfl rfl ?_
               refine pu 39 140 (bz 51 1099511627775) rfl rfl ?_
               refine pu 40 141 (bz 51 2199023255551) rfl rfl ?_
               refine pu 41 142 (bz 51 4398046511103) rfl rfl ?_
               refine pu 42 143 (bz 51 8796093022207) rfl rfl ?_
               refine pu 43 144 (bz 51 17592186044415) rfl rfl ?_
               refine pu 44 145 (bz 51 35184372088831) rfl rfl ?_
               refine pu 45 146 (bz 51 70368744177663) rfl rfl ?_
               refine pu 46 147 (bz 51 140737488355327) rfl rfl ?_
               refine pu 47 148 (bz 51 281474976710655) rfl rfl ?_
               refine pu 48 149 (bz 51 562949953421311) rfl rfl ?_
               refine pu 49 150 (bz 51 1125899906842623) rfl rfl ?_
               refine pz 50 151 (bz 51 2251799813685247) rfl rfl ?_
               refine done_ (done_of HT_.out (by kernel_rfl)) ?_
               try go_wp2
               go_meet
               case rel => exact ⟨_, (true), (zb1), H', ⟨zb178⟩, ⟨zb156⟩, ⟨zb175⟩, ⟨zb176⟩, ⟨zb155⟩, ⟨zb161⟩, ⟨zb167⟩, ⟨zb168⟩⟩
              ·as_aux_lemma =>
               rw [if_neg c68] at H
               have c68b0 : decide (x371000_19 < t391) = false := decide_eq_false c68
               clear c68
               replace H := Option.bind_eq_some_iff.mp H
               obtain ⟨t392, A720, H⟩ := H
               replace H : (if t392 = true then (if 0 ≤ t363 then (if t363 < (x371001_19.length : Int) then (if t363 < (x360001_1.length : Int) then (if ((rd_T63 x371001_19 t363).f0) < ((rd_T63 x360001_1 t363).f0) then (laws_FnMarks.j3 kj54 l0 x6_1 true x371000_19 x371001_19) else ((impl_MarksLate.f kj54 x371000_19 x371001_19 x371000_19).bind fun t395 => (if t395 = true then (laws_FnMarks.j3 kj54 l0 x6_1 true x371000_19 x371001_19) else (if x371000_19 > 0 then ((impl_MarksLate.f kj54 x371000_19 x371001_19 (wrap64 (x371000_19 - 1))).bind fun t396 => (laws_FnMarks.j3 kj54 l0 x6_1 (!t396) x371000_19 x371001_19)) else (laws_FnMarks.j3 kj54 l0 x6_1 false x371000_19 x371001_19))))) else (none)) else (none)) else (none)) else (laws_FnMarks.j3 kj54 l0 x6_1 true x371000_19 x371001_19)) = some r := H
               have A72 := Aside0.mk A720
               clear A720
               by_cases c73 : t392 = true
               ·subst c73
                have H1 : (if 0 ≤ t363 then (if t363 < (x371001_19.length : Int) then (if t363 < (x360001_1.length : Int) then (if ((rd_T63 x371001_19 t363).f0) < ((rd_T63 x360001_1 t363).f0) then (laws_FnMarks.j3 kj54 l0 x6_1 true x371000_19 x371001_19) else ((impl_MarksLate.f kj54 x371000_19 x371001_19 x371000_19).bind fun t395 => (if t395 = true then (laws_FnMarks.j3 kj54 l0 x6_1 true x371000_19 x371001_19) else (if x371000_19 > 0 then ((impl_MarksLate.f kj54 x371000_19 x371001_19 (wrap64 (x371000_19 - 1))).bind fun t396 => (laws_FnMarks.j3 kj54 l0 x6_1 (!t396) x371000_19 x371001_19)) else (laws_FnMarks.j3 kj54 l0 x6_1 false x371000_19 x371001_19))))) else (none)) else (none)) else (none)) = some r := by rw [if_pos rfl] at H; exact H
                clear H
                have H := H1
                clear H1
                by_cases c74 : 0 ≤ t363
                ·as_aux_lemma =>
                 rw [if_pos c74] at H
                 have c74b0 : decide (0 ≤ t363) = true := decide_eq_true c74
                 clear c74
                 by_cases c75 : t363 < (x371001_19.length : Int)
                 ·as_aux_lemma =>
                  rw [if_pos c75] at H
                  have c75b0 : decide (t363 < (x371001_19.length : Int)) = true := decide_eq_true c75
                  clear c75
                  by_cases c76 : t363 < (x360001_1.length : Int)
                  ·as_aux_lemma =>
                   rw [if_pos c76] at H
                   have c76b0 : decide (t363 < (x360001_1.length : Int)) = true := decide_eq_true c76
                   clear c76
                   by_cases c77 : ((rd_T63 x371001_19 t363).f0) < ((rd_T63 x360001_1 t363).f0)
                   ·as_aux_lemma =>
                    rw [if_pos c77] at H
                    have c77b0 : decide (((rd_T63 x371001_19 t363).f0) < ((rd_T63 x360001_1 t363).f0)) = true := decide_eq_true c77
                    clear c77
                    have H' := Aside0.mk H
                    clear H
                    try go_wp2
                    have n0_ := Aside0.mk (Kd.R_drew HO_360001.out)
                    have n1_ := Aside0.mk (Kd.R_drew HO_371001.out)
                    have n2_ := Aside0.mk (Kd.R_drew HO_378001.out)
                    have n3_ := Aside0.mk (blk_drew BK359.out)
                    have n4_ := Aside0.mk (blk_drew BK370.out)
                    have n5_ := Aside0.mk (blk_drew BK377.out)
                    have n6_ := Aside0.mk (below_drew1 HB.out)
                    clear HO_360001
                    clear HO_371001
                    clear HO_378001
                    clear BK359
                    clear BK370
                    clear BK377
                    clear HB
                    have HO_360001 := n0_
                    have HO_371001 := n1_
                    have HO_378001 := n2_
                    have BK359 := n3_
                    have BK370 := n4_
                    have BK377 := n5_
                    have HB := n6_
                    clear n0_ n1_ n2_ n3_ n4_ n5_ n6_
                    obtain ⟨Ao79, co79, eo79⟩ := Kd.R_slice HO_371001.out
                    (first | subst eo79 | (injection eo79 with f1_ f2_ f3_; have f4_ := f1_.symm; have f5_ := f3_.symm; clear f1_ f2_ f3_; subst f4_; subst f5_))
                    have p393 : 0 ≤ (t363 : Int) := of_decide_eq_true (zb9)
                    have q393 : t363 < (x371001_19.length : Int) := of_decide_eq_true (zb9)
                    obtain ⟨ad393, e393, hx393_0, hx393_1⟩ := at_T63 (Kd.R_reads' HO_371001.out).2.2 t363 p393 q393
                    cases e393
                    replace p393 := eq_true p393
                    replace q393 := eq_true q393
                    have p394 : 0 ≤ (t363 : Int) := of_decide_eq_true (zb9)
                    have q394 : t363 < (x360001_1.length : Int) := of_decide_eq_true (zb9)
                    obtain ⟨ad394, e394, hx394_0, hx394_1⟩ := at_T63 (Kd.R_reads' HO_360001.out).2.2 t363 p394 q394
                    cases e394
                    replace p394 := eq_true p394
                    replace q394 := eq_true q394
                    refine start_ (n := 51) (S := fun w' => w'.cell? ⟨gb370, 0, none⟩ = some (.int .i64 x371000_19) ∧ w'.cell? ⟨gb370, 1, none⟩ = some (.slice (some ad393) x371001_19.length co79) ∧ w'.cell? ⟨gb359, 0, none⟩ = some (.int .i64 x360000_1) ∧ w'.cell? ⟨gb359, 1, none⟩ = some (.slice (some ad394) x360001_1.length co22) ∧ w'.cell? (ad393.add ((t363).toNat * 2)) = some (.int .i64 ((rd_T63 x371001_19 t363).f0)) ∧ w'.cell? ⟨(ad393.add ((t363).toNat * 2)).block, (ad393.add ((t363).toNat * 2)).off + 1, none⟩ = some (.bool ((rd_T63 x371001_19 t363).f1)) ∧ w'.cell? (ad394.add ((t363).toNat * 2)) = some (.int .i64 ((rd_T63 x360001_1 t363).f0)) ∧ w'.cell? ⟨(ad394.add ((t363).toNat * 2)).block, (ad394.add ((t363).toNat * 2)).off + 1, none⟩ = some (.bool ((rd_T63 x360001_1 t363).f1))) (ds := []) #[false, false, false, false, false, false, false, false, false, false, false, false, false, false, false, false, false, false, false, false, false, false, false, false, false, false, false, false, false, false, false, false, false, false, false, false, false, false, false, false, false, false, false, false, false, false, false, false, false, false, false] (by kernel_rfl) rfl rfl ⟨(blk_cell BK370.out 0).trans rfl, (blk_cell BK370.out 1).trans rfl, (blk_cell BK359.out 0).trans rfl, (blk_cell BK359.out 1).trans rfl, hx393_0, hx393_1, hx394_0, hx394_1⟩ (fun hHeld => ?_); refine with_tabW laws_FnMarks.tab18 laws_FnMarks.bits18 (fun HT_ HW_ => ?_)
                    generalize wc.drew = w78 at HO_360001 HO_371001 HO_378001 BK359 BK370 BK377 HB hx393_0 hx393_1 hx394_0 hx394_1 hHeld ⊢
                    refine pz 0 101 (bz 51 1) rfl rfl ?_
                    refine pz 2 103 (bz 51 5) rfl rfl ?_
                    refine tz 1 102 (bz 51 7) rfl rfl (Or.inl ⟨by rfl, by rintro w' ⟨s0, s1, s2, s3, s4, s5, s6, s7⟩; go_simp; with_reducible rfl⟩) hHeld ?_
                    refine tz 3 104 (bz 51 15) rfl rfl (Or.inl ⟨by rfl, by rintro w' ⟨s0, s1, s2, s3, s4, s5, s6, s7⟩; go_simp; with_reducible rfl⟩) hHeld ?_
                    refine pz 4 105 (bz 51 31) rfl rfl ?_
                    refine pz 5 106 (bz 51 63) rfl rfl ?_
                    refine pz 6 107 (bz 51 127) rfl rfl ?_
                    refine tz 7 108 (bz 51 255) rfl rfl (Or.inl ⟨by rfl, by rintro w' ⟨s0, s1, s2, s3, s4, s5, s6, s7⟩; go_simp; with_reducible rfl⟩) hHeld ?_
                    refine tz 8 109 (bz 51 511) rfl rfl (Or.inl ⟨by rfl, by rintro w' ⟨s0, s1, s2, s3, s4, s5, s6, s7⟩; go_simp; with_reducible rfl⟩) hHeld ?_
                    refine one_ (i := 9) (N := some 110) (bz 51 1023) rfl rfl (one_of HT_.out (by kernel_rfl)) (by decide) (fun K hK => ?_)
                    refine goes_ Try.func35 (by kernel_rfl) rfl #[.agg #[.int .i64 x371000_19, .slice (some ad393) x371001_19.length co79]] (by rfl) rfl rfl (zb10) ?_
                    with_reducible refine (impl_MarksLeast.calls kj54 x371000_19 _ _ x371001_19 t391 _ ?side1 ?side2 A67.out).mono ?_
                    (case side1 => exact zb179)
                    (case side2 => exact (Kd.R_reads' HO_371001.out).2.1)
                    rintro e w80 ⟨rfl, hb⟩
                    have HS4_ := (hb.cell (World.block_lt_of_cell? _ _ (hHeld.2.2.2.2.1))).trans (hHeld.2.2.2.2.1)
                    have HS5_ := (hb.cell (World.block_lt_of_cell? _ _ (hHeld.2.2.2.2.2.1))).trans (hHeld.2.2.2.2.2.1)
                    have HS6_ := (hb.cell (World.block_lt_of_cell? _ _ (hHeld.2.2.2.2.2.2.1))).trans (hHeld.2.2.2.2.2.2.1)
                    have HS7_ := (hb.cell (World.block_lt_of_cell? _ _ (hHeld.2.2.2.2.2.2.2))).trans (hHeld.2.2.2.2.2.2.2)
                    refine ⟨_, rfl, ?_⟩
                    have n0_ := Aside0.mk (Kd.R_below (zb156) hb)
                    have n1_ := Aside0.mk (Kd.R_below (zb175) hb)
                    have n2_ := Aside0.mk (Kd.R_below (zb176) hb)
                    have n3_ := Aside0.mk (blk_below (g := gb359) (o := .cells #[.int .i64 x360000_1, .slice (some ad394) x360001_1.length co22] 53 (0, 0)) (zb155) hb)
                    have n4_ := Aside0.mk (blk_below (g := gb370) (o := .cells #[.int .i64 x371000_19, .slice (some ad393) x371001_19.length co79] 53 (0, 0)) (zb161) hb)
                    have n5_ := Aside0.mk (blk_below (g := gb377) (o := .cells #[.int .i64 x378000_19, u378001] 53 (0, 0)) (zb167) hb)
                    have n6_ := Aside0.mk (below_step (zb168) hb)
                    clear HO_360001
                    clear HO_371001
                    clear HO_378001
                    clear BK359
                    clear BK370
                    clear BK377
                    clear HB
                    have HO_360001 := n0_
                    have HO_371001 := n1_
                    have HO_378001 := n2_
                    have BK359 := n3_
                    have BK370 := n4_
                    have BK377 := n5_
                    have HB := n6_
                    clear n0_ n1_ n2_ n3_ n4_ n5_ n6_
                    (try clear hb)
                    (try clear hb2)
                    (try clear hk)
                    (try clear hi)
                    refine hK.out _ _ ⟨(blk_cell BK370.out 0).trans rfl, (blk_cell BK370.out 1).trans rfl, (blk_cell BK359.out 0).trans rfl, (blk_cell BK359.out 1).trans rfl, HS4_, HS5_, HS6_, HS7_⟩ (fun hHeld => ?_)
                    clear hK K
                    refine norm_ (a' := ?_) ?_ ?_
                    rotate_left
                    ·show Act.put _ (some 110) _ = _
                     simp only [Act.put, List.setIfInBounds_toArray, List.set_cons_zero, List.set_cons_succ, i64_w, i32_w]
                     rfl
                    refine pz 10 111 (bz 51 2047) rfl rfl ?_
                    refine pz 11 112 (bz 51 4095) rfl rfl ?_
                    refine pz 12 113 (bz 51 8191) rfl rfl ?_
                    refine tz 13 114 (bz 51 16383) rfl rfl (Or.inl ⟨by rfl, by rintro w' ⟨s0, s1, s2, s3, s4, s5, s6, s7⟩; go_simp; with_reducible rfl⟩) hHeld ?_
                    refine one_ (i := 14) (N := some 115) (bz 51 32767) rfl rfl (one_of HT_.out (by kernel_rfl)) (by decide) (fun K hK => ?_)
                    refine goes_ Try.func28 (by kernel_rfl) rfl #[.agg #[.int .i64 x371000_19, .slice (some ad393) x371001_19.length co79]] (by rfl) rfl rfl (zb10) ?_
                    with_reducible refine (spec_MarksOk.calls kj54 x371000_19 _ _ x371001_19 true _ ?side1 ?side2 A72.out).mono ?_
                    (case side1 => exact zb179)
                    (case side2 => exact (Kd.R_reads' HO_371001.out).2.1)
                    rintro e w81 ⟨rfl, hb⟩
                    have HS4_ := (hb.cell (World.block_lt_of_cell? _ _ (hHeld.2.2.2.2.1))).trans (hHeld.2.2.2.2.1)
                    have HS5_ := (hb.cell (World.block_lt_of_cell? _ _ (hHeld.2.2.2.2.2.1))).trans (hHeld.2.2.2.2.2.1)
                    have HS6_ := (hb.cell (World.block_lt_of_cell? _ _ (hHeld.2.2.2.2.2.2.1))).trans (hHeld.2.2.2.2.2.2.1)
                    have HS7_ := (hb.cell (World.block_lt_of_cell? _ _ (hHeld.2.2.2.2.2.2.2))).trans (hHeld.2.2.2.2.2.2.2)
                    refine ⟨_, rfl, ?_⟩
                    have n0_ := Aside0.mk (Kd.R_below (zb156) hb)
                    have n1_ := Aside0.mk (Kd.R_below (zb175) hb)
                    have n2_ := Aside0.mk (Kd.R_below (zb176) hb)
                    have n3_ := Aside0.mk (blk_below (g := gb359) (o := .cells #[.int .i64 x360000_1, .slice (some ad394) x360001_1.length co22] 53 (0, 0)) (zb155) hb)
                    have n4_ := Aside0.mk (blk_below (g := gb370) (o := .cells #[.int .i64 x371000_19, .slice (some ad393) x371001_19.length co79] 53 (0, 0)) (zb161) hb)
                    have n5_ := Aside0.mk (blk_below (g := gb377) (o := .cells #[.int .i64 x378000_19, u378001] 53 (0, 0)) (zb167) hb)
                    have n6_ := Aside0.mk (below_step (zb168) hb)
                    clear HO_360001
                    clear HO_371001
                    clear HO_378001
                    clear BK359
                    clear BK370
                    clear BK377
                    clear HB
                    have HO_360001 := n0_
                    have HO_371001 := n1_
                    have HO_378001 := n2_
                    have BK359 := n3_
                    have BK370 := n4_
                    have BK377 := n5_
                    have HB := n6_
                    clear n0_ n1_ n2_ n3_ n4_ n5_ n6_
                    (try clear hb)
                    (try clear hb2)
                    (try clear hk)
                    (try clear hi)
                    refine hK.out _ _ ⟨(blk_cell BK370.out 0).trans rfl, (blk_cell BK370.out 1).trans rfl, (blk_cell BK359.out 0).trans rfl, (blk_cell BK359.out 1).trans rfl, HS4_, HS5_, HS6_, HS7_⟩ (fun hHeld => ?_)
                    clear hK K
                    refine norm_ (a' := ?_) ?_ ?_
                    rotate_left
                    ·show Act.put _ (some 115) _ = _
                     simp only [Act.put, List.setIfInBounds_toArray, List.set_cons_zero, List.set_cons_succ, i64_w, i32_w]
                     rfl
                    refine pz 15 116 (bz 51 65535) rfl rfl ?_
                    refine pz 16 117 (bz 51 131071) rfl rfl ?_
                    refine pz 17 118 (bz 51 262143) rfl rfl ?_
                    refine pz 18 119 (bz 51 524287) rfl rfl ?_
                    refine pz 20 121 (bz 51 1572863) rfl rfl ?_
                    refine pz 24 125 (bz 51 18350079) rfl rfl ?_
                    refine pz 26 127 (bz 51 85458943) rfl rfl ?_
                    refine tz 19 120 (bz 51 85983231) rfl rfl (Or.inl ⟨by rfl, by rintro w' ⟨s0, s1, s2, s3, s4, s5, s6, s7⟩; go_simp; with_reducible rfl⟩) hHeld ?_
                    refine pz 21 122 (bz 51 88080383) rfl rfl ?_
                    refine pz 22 123 (bz 51 92274687) rfl rfl ?_
                    refine tz 23 124 (bz 51 100663295) rfl rfl (Or.inl ⟨by rfl, by rintro w' ⟨s0, s1, s2, s3, s4, s5, s6, s7⟩; go_simp; with_reducible rfl⟩) hHeld ?_
                    refine tz 25 126 (bz 51 134217727) rfl rfl (Or.inl ⟨by rfl, by rintro w' ⟨s0, s1, s2, s3, s4, s5, s6, s7⟩; go_simp; with_reducible rfl⟩) hHeld ?_
                    refine pz 27 128 (bz 51 268435455) rfl rfl ?_
                    refine pz 28 129 (bz 51 536870911) rfl rfl ?_
                    refine tz 29 130 (bz 51 1073741823) rfl rfl (Or.inl ⟨by rfl, by rintro w' ⟨s0, s1, s2, s3, s4, s5, s6, s7⟩; go_simp; with_reducible rfl⟩) hHeld ?_
                    refine pz 30 131 (bz 51 2147483647) rfl rfl ?_
                    refine pz 31 132 (bz 51 4294967295) rfl rfl ?_
                    refine pz 32 133 (bz 51 8589934591) rfl rfl ?_
                    refine pu 33 134 (bz 51 17179869183) rfl rfl ?_
                    refine pu 34 135 (bz 51 34359738367) rfl rfl ?_
                    refine pu 35 136 (bz 51 68719476735) rfl rfl ?_
                    refine pu 36 137 (bz 51 137438953471) rfl rfl ?_
                    refine pz 37 138 (bz 51 274877906943) rfl rfl ?_
                    refine pz 38 139 (bz 51 549755813887) rfl rfl ?_
                    refine pu 39 140 (bz 51 1099511627775) rfl rfl ?_
                    refine pu 40 141 (bz 51 2199023255551) rfl rfl ?_
                    refine pu 41 142 (bz 51 4398046511103) rfl rfl ?_
                    refine pu 42 143 (bz 51 8796093022207) rfl rfl ?_
                    refine pu 43 144 (bz 51 17592186044415) rfl rfl ?_
                    refine pu 44 145 (bz 51 35184372088831) rfl rfl ?_
                    refine pu 45 146 (bz 51 70368744177663) rfl rfl ?_
                    refine pu 46 147 (bz 51 140737488355327) rfl rfl ?_
                    refine pu 47 148 (bz 51 281474976710655) rfl rfl ?_
                    refine pu 48 149 (bz 51 562949953421311) rfl rfl ?_
                    refine pu 49 150 (bz 51 1125899906842623) rfl rfl ?_
                    refine pz 50 151 (bz 51 2251799813685247) rfl rfl ?_
                    refine done_ (done_of HT_.out (by kernel_rfl)) ?_
                    try go_wp2
                    go_meet
                    case rel => exact ⟨_, (true), (zb1), H', ⟨zb178⟩, ⟨zb156⟩, ⟨zb175⟩, ⟨zb176⟩, ⟨zb155⟩, ⟨zb161⟩, ⟨zb167⟩, ⟨zb168⟩⟩
                   ·as_aux_lemma =>
                    rw [if_neg c77] at H
                    have c77b0 : decide (((rd_T63 x371001_19 t363).f0) < ((rd_T63 x360001_1 t363).f0)) = false := decide_eq_false c77
                    clear c77
                    replace H := Option.bind_eq_some_iff.mp H
                    obtain ⟨t395, A820, H⟩ := H
                    replace H : (if t395 = true then (laws_FnMarks.j3 kj54 l0 x6_1 true x371000_19 x371001_19) else (if x371000_19 > 0 then ((impl_MarksLate.f kj54 x371000_19 x371001_19 (wrap64 (x371000_19 - 1))).bind fun t396 => (laws_FnMarks.j3 kj54 l0 x6_1 (!t396) x371000_19 x371001_19)) else (laws_FnMarks.j3 kj54 l0 x6_1 false x371000_19 x371001_19))) = some r := H
                    have A82 := Aside0.mk A820
                    clear A820
                    by_cases c83 : t395 = true
                    ·subst c83
                     have H1 : (laws_FnMarks.j3 kj54 l0 x6_1 true x371000_19 x371001_19) = some r := by rw [if_pos rfl] at H; exact H
                     clear H
                     have H := H1
                     clear H1
                     have H' := Aside0.mk H
                     clear H
                     try go_wp2
                     have n0_ := Aside0.mk (Kd.R_drew HO_360001.out)
                     have n1_ := Aside0.mk (Kd.R_drew HO_371001.out)
                     have n2_ := Aside0.mk (Kd.R_drew HO_378001.out)
                     have n3_ := Aside0.mk (blk_drew BK359.out)
                     have n4_ := Aside0.mk (blk_drew BK370.out)
                     have n5_ := Aside0.mk (blk_drew BK377.out)
                     have n6_ := Aside0.mk (below_drew1 HB.out)
                     clear HO_360001
                     clear HO_371001
                     clear HO_378001
                     clear BK359
                     clear BK370
                     clear BK377
                     clear HB
                     have HO_360001 := n0_
                     have HO_371001 := n1_
                     have HO_378001 := n2_
                     have BK359 := n3_
                     have BK370 := n4_
                     have BK377 := n5_
                     have HB := n6_
                     clear n0_ n1_ n2_ n3_ n4_ n5_ n6_
                     obtain ⟨Ao85, co85, eo85⟩ := Kd.R_slice HO_371001.out
                     (first | subst eo85 | (injection eo85 with f1_ f2_ f3_; have f4_ := f1_.symm; have f5_ := f3_.symm; clear f1_ f2_ f3_; subst f4_; subst f5_))
                     have p393 : 0 ≤ (t363 : Int) := of_decide_eq_true (zb9)
                     have q393 : t363 < (x371001_19.length : Int) := of_decide_eq_true (zb9)
                     obtain ⟨ad393, e393, hx393_0, hx393_1⟩ := at_T63 (Kd.R_reads' HO_371001.out).2.2 t363 p393 q393
                     cases e393
                     replace p393 := eq_true p393
                     replace q393 := eq_true q393
                     have p394 : 0 ≤ (t363 : Int) := of_decide_eq_true (zb9)
                     have q394 : t363 < (x360001_1.length : Int) := of_decide_eq_true (zb9)
                     obtain ⟨ad394, e394, hx394_0, hx394_1⟩ := at_T63 (Kd.R_reads' HO_360001.out).2.2 t363 p394 q394
                     cases e394
                     replace p394 := eq_true p394
                     replace q394 := eq_true q394
                     refine start_ (n := 51) (S := fun w' => w'.cell? ⟨gb370, 0, none⟩ = some (.int .i64 x371000_19) ∧ w'.cell? ⟨gb370, 1, none⟩ = some (.slice (some ad393) x371001_19.length co85) ∧ w'.cell? ⟨gb359, 0, none⟩ = some (.int .i64 x360000_1) ∧ w'.cell? ⟨gb359, 1, none⟩ = some (.slice (some ad394) x360001_1.length co22) ∧ w'.cell? (ad393.add ((t363).toNat * 2)) = some (.int .i64 ((rd_T63 x371001_19 t363).f0)) ∧ w'.cell? ⟨(ad393.add ((t363).toNat * 2)).block, (ad393.add ((t363).toNat * 2)).off + 1, none⟩ = some (.bool ((rd_T63 x371001_19 t363).f1)) ∧ w'.cell? (ad394.add ((t363).toNat * 2)) = some (.int .i64 ((rd_T63 x360001_1 t363).f0)) ∧ w'.cell? ⟨(ad394.add ((t363).toNat * 2)).block, (ad394.add ((t363).toNat * 2)).off + 1, none⟩ = some (.bool ((rd_T63 x360001_1 t363).f1))) (ds := []) #[false, false, false, false, false, false, false, false, false, false, false, false, false, false, false, false, false, false, false, false, false, false, false, false, false, false, false, false, false, false, false, false, false, false, false, false, false, false, false, false, false, false, false, false, false, false, false, false, false, false, false] (by kernel_rfl) rfl rfl ⟨(blk_cell BK370.out 0).trans rfl, (blk_cell BK370.out 1).trans rfl, (blk_cell BK359.out 0).trans rfl, (blk_cell BK359.out 1).trans rfl, hx393_0, hx393_1, hx394_0, hx394_1⟩ (fun hHeld => ?_); refine with_tabW laws_FnMarks.tab18 laws_FnMarks.bits18 (fun HT_ HW_ => ?_)
                     generalize wc.drew = w84 at HO_360001 HO_371001 HO_378001 BK359 BK370 BK377 HB hx393_0 hx393_1 hx394_0 hx394_1 hHeld ⊢
                     refine pz 0 101 (bz 51 1) rfl rfl ?_
                     refine pz 2 103 (bz 51 5) rfl rfl ?_
                     refine tz 1 102 (bz 51 7) rfl rfl (Or.inl ⟨by rfl, by rintro w' ⟨s0, s1, s2, s3, s4, s5, s6, s7⟩; go_simp; with_reducible rfl⟩) hHeld ?_
                     refine tz 3 104 (bz 51 15) rfl rfl (Or.inl ⟨by rfl, by rintro w' ⟨s0, s1, s2, s3, s4, s5, s6, s7⟩; go_simp; with_reducible rfl⟩) hHeld ?_
                     refine pz 4 105 (bz 51 31) rfl rfl ?_
                     refine pz 5 106 (bz 51 63) rfl rfl ?_
                     refine pz 6 107 (bz 51 127) rfl rfl ?_
                     refine tz 7 108 (bz 51 255) rfl rfl (Or.inl ⟨by rfl, by rintro w' ⟨s0, s1, s2, s3, s4, s5, s6, s7⟩; go_simp; with_reducible rfl⟩) hHeld ?_
                     refine tz 8 109 (bz 51 511) rfl rfl (Or.inl ⟨by rfl, by rintro w' ⟨s0, s1, s2, s3, s4, s5, s6, s7⟩; go_simp; with_reducible rfl⟩) hHeld ?_
                     refine one_ (i := 9) (N := some 110) (bz 51 1023) rfl rfl (one_of HT_.out (by kernel_rfl)) (by decide) (fun K hK => ?_)
                     refine goes_ Try.func35 (by kernel_rfl) rfl #[.agg #[.int .i64 x371000_19, .slice (some ad393) x371001_19.length co85]] (by rfl) rfl rfl (zb10) ?_
                     with_reducible refine (impl_MarksLeast.calls kj54 x371000_19 _ _ x371001_19 t391 _ ?side1 ?side2 A67.out).mono ?_
                     (case side1 => exact zb179)
                     (case side2 => exact (Kd.R_reads' HO_371001.out).2.1)
                     rintro e w86 ⟨rfl, hb⟩
                     have HS4_ := (hb.cell (World.block_lt_of_cell? _ _ (hHeld.2.2.2.2.1))).trans (hHeld.2.2.2.2.1)
                     have HS5_ := (hb.cell (World.block_lt_of_cell? _ _ (hHeld.2.2.2.2.2.1))).trans (hHeld.2.2.2.2.2.1)
                     have HS6_ := (hb.cell (World.block_lt_of_cell? _ _ (hHeld.2.2.2.2.2.2.1))).trans (hHeld.2.2.2.2.2.2.1)
                     have HS7_ := (hb.cell (World.block_lt_of_cell? _ _ (hHeld.2.2.2.2.2.2.2))).trans (hHeld.2.2.2.2.2.2.2)
                     refine ⟨_, rfl, ?_⟩
                     have n0_ := Aside0.mk (Kd.R_below (zb156) hb)
                     have n1_ := Aside0.mk (Kd.R_below (zb175) hb)
                     have n2_ := Aside0.mk (Kd.R_below (zb176) hb)
                     have n3_ := Aside0.mk (blk_below (g := gb359) (o := .cells #[.int .i64 x360000_1, .slice (some ad394) x360001_1.length co22] 53 (0, 0)) (zb155) hb)
                     have n4_ := Aside0.mk (blk_below (g := gb370) (o := .cells #[.int .i64 x371000_19, .slice (some ad393) x371001_19.length co85] 53 (0, 0)) (zb161) hb)
                     have n5_ := Aside0.mk (blk_below (g := gb377) (o := .cells #[.int .i64 x378000_19, u378001] 53 (0, 0)) (zb167) hb)
                     have n6_ := Aside0.mk (below_step (zb168) hb)
                     clear HO_360001
                     clear HO_371001
                     clear HO_378001
                     clear BK359
                     clear BK370
                     clear BK377
                     clear HB
                     have HO_360001 := n0_
                     have HO_371001 := n1_
                     have HO_378001 := n2_
                     have BK359 := n3_
                     have BK370 := n4_
                     have BK377 := n5_
                     have HB := n6_
                     clear n0_ n1_ n2_ n3_ n4_ n5_ n6_
                     (try clear hb)
                     (try clear hb2)
                     (try clear hk)
                     (try clear hi)
                     refine hK.out _ _ ⟨(blk_cell BK370.out 0).trans rfl, (blk_cell BK370.out 1).trans rfl, (blk_cell BK359.out 0).trans rfl, (blk_cell BK359.out 1).trans rfl, HS4_, HS5_, HS6_, HS7_⟩ (fun hHeld => ?_)
                     clear hK K
                     refine norm_ (a' := ?_) ?_ ?_
                     rotate_left
                     ·show Act.put _ (some 110) _ = _
                      simp only [Act.put, List.setIfInBounds_toArray, List.set_cons_zero, List.set_cons_succ, i64_w, i32_w]
                      rfl
                     refine pz 10 111 (bz 51 2047) rfl rfl ?_
                     refine pz 11 112 (bz 51 4095) rfl rfl ?_
                     refine pz 12 113 (bz 51 8191) rfl rfl ?_
                     refine tz 13 114 (bz 51 16383) rfl rfl (Or.inl ⟨by rfl, by rintro w' ⟨s0, s1, s2, s3, s4, s5, s6, s7⟩; go_simp; with_reducible rfl⟩) hHeld ?_
                     refine one_ (i := 14) (N := some 115) (bz 51 32767) rfl rfl (one_of HT_.out (by kernel_rfl)) (by decide) (fun K hK => ?_)
                     refine goes_ Try.func28 (by kernel_rfl) rfl #[.agg #[.int .i64 x371000_19, .slice (some ad393) x371001_19.length co85]] (by rfl) rfl rfl (zb10) ?_
                     with_reducible refine (spec_MarksOk.calls kj54 x371000_19 _ _ x371001_19 true _ ?side1 ?side2 A72.out).mono ?_
                     (case side1 => exact zb179)
                     (case side2 => exact (Kd.R_reads' HO_371001.out).2.1)
                     rintro e w87 ⟨rfl, hb⟩
                     have HS4_ := (hb.cell (World.block_lt_of_cell? _ _ (hHeld.2.2.2.2.1))).trans (hHeld.2.2.2.2.1)
                     have HS5_ := (hb.cell (World.block_lt_of_cell? _ _ (hHeld.2.2.2.2.2.1))).trans (hHeld.2.2.2.2.2.1)
                     have HS6_ := (hb.cell (World.block_lt_of_cell? _ _ (hHeld.2.2.2.2.2.2.1))).trans (hHeld.2.2.2.2.2.2.1)
                     have HS7_ := (hb.cell (World.block_lt_of_cell? _ _ (hHeld.2.2.2.2.2.2.2))).trans (hHeld.2.2.2.2.2.2.2)
                     refine ⟨_, rfl, ?_⟩
                     have n0_ := Aside0.mk (Kd.R_below (zb156) hb)
                     have n1_ := Aside0.mk (Kd.R_below (zb175) hb)
                     have n2_ := Aside0.mk (Kd.R_below (zb176) hb)
                     have n3_ := Aside0.mk (blk_below (g := gb359) (o := .cells #[.int .i64 x360000_1, .slice (some ad394) x360001_1.length co22] 53 (0, 0)) (zb155) hb)
                     have n4_ := Aside0.mk (blk_below (g := gb370) (o := .cells #[.int .i64 x371000_19, .slice (some ad393) x371001_19.length co85] 53 (0, 0)) (zb161) hb)
                     have n5_ := Aside0.mk (blk_below (g := gb377) (o := .cells #[.int .i64 x378000_19, u378001] 53 (0, 0)) (zb167) hb)
                     have n6_ := Aside0.mk (below_step (zb168) hb)
                     clear HO_360001
                     clear HO_371001
                     clear HO_378001
                     clear BK359
                     clear BK370
                     clear BK377
                     clear HB
                     have HO_360001 := n0_
                     have HO_371001 := n1_
                     have HO_378001 := n2_
                     have BK359 := n3_
                     have BK370 := n4_
                     have BK377 := n5_
                     have HB := n6_
                     clear n0_ n1_ n2_ n3_ n4_ n5_ n6_
                     (try clear hb)
                     (try clear hb2)
                     (try clear hk)
                     (try clear hi)
                     refine hK.out _ _ ⟨(blk_cell BK370.out 0).trans rfl, (blk_cell BK370.out 1).trans rfl, (blk_cell BK359.out 0).trans rfl, (blk_cell BK359.out 1).trans rfl, HS4_, HS5_, HS6_, HS7_⟩ (fun hHeld => ?_)
                     clear hK K
                     refine norm_ (a' := ?_) ?_ ?_
                     rotate_left
                     ·show Act.put _ (some 115) _ = _
                      simp only [Act.put, List.setIfInBounds_toArray, List.set_cons_zero, List.set_cons_succ, i64_w, i32_w]
                      rfl
                     refine pz 15 116 (bz 51 65535) rfl rfl ?_
                     refine pz 16 117 (bz 51 131071) rfl rfl ?_
                     refine pz 17 118 (bz 51 262143) rfl rfl ?_
                     refine pz 18 119 (bz 51 524287) rfl rfl ?_
                     refine pz 20 121 (bz 51 1572863) rfl rfl ?_
                     refine pz 24 125 (bz 51 18350079) rfl rfl ?_
                     refine pz 26 127 (bz 51 85458943) rfl rfl ?_
                     refine tz 19 120 (bz 51 85983231) rfl rfl (Or.inl ⟨by rfl, by rintro w' ⟨s0, s1, s2, s3, s4, s5, s6, s7⟩; go_simp; with_reducible rfl⟩) hHeld ?_
                     refine pz 21 122 (bz 51 88080383) rfl rfl ?_
                     refine pz 22 123 (bz 51 92274687) rfl rfl ?_
                     refine tz 23 124 (bz 51 100663295) rfl rfl (Or.inl ⟨by rfl, by rintro w' ⟨s0, s1, s2, s3, s4, s5, s6, s7⟩; go_simp; with_reducible rfl⟩) hHeld ?_
                     refine tz 25 126 (bz 51 134217727) rfl rfl (Or.inl ⟨by rfl, by rintro w' ⟨s0, s1, s2, s3, s4, s5, s6, s7⟩; go_simp; with_reducible rfl⟩) hHeld ?_
                     refine pz 27 128 (bz 51 268435455) rfl rfl ?_
                     refine pz 28 129 (bz 51 536870911) rfl rfl ?_
                     refine tz 29 130 (bz 51 1073741823) rfl rfl (Or.inl ⟨by rfl, by rintro w' ⟨s0, s1, s2, s3, s4, s5, s6, s7⟩; go_simp; with_reducible rfl⟩) hHeld ?_
                     refine pz 30 131 (bz 51 2147483647) rfl rfl ?_
                     refine pz 31 132 (bz 51 4294967295) rfl rfl ?_
                     refine pz 32 133 (bz 51 8589934591) rfl rfl ?_
                     refine pz 34 135 (bz 51 25769803775) rfl rfl ?_
                     refine tz 33 134 (bz 51 34359738367) rfl rfl (Or.inl ⟨by rfl, by rintro w' ⟨s0, s1, s2, s3, s4, s5, s6, s7⟩; go_simp; with_reducible rfl⟩) hHeld ?_
                     refine tz 35 136 (bz 51 68719476735) rfl rfl (Or.inl ⟨by rfl, by rintro w' ⟨s0, s1, s2, s3, s4, s5, s6, s7⟩; go_simp; with_reducible rfl⟩) hHeld ?_
                     refine one_ (i := 36) (N := some 137) (bz 51 137438953471) rfl rfl (one_of HT_.out (by kernel_rfl)) (by decide) (fun K hK => ?_)
                     refine goes_ Try.func36 (by kernel_rfl) rfl #[.agg #[.int .i64 x371000_19, .slice (some ad393) x371001_19.length co85], .int .i64 x371000_19] (by rfl) rfl rfl (zb10) ?_
                     with_reducible refine (impl_MarksLate.calls kj54 x371000_19 _ _ x371001_19 x371000_19 true _ ?side1 ?side2 A82.out).mono ?_
                     (case side1 => exact zb179)
                     (case side2 => exact (Kd.R_reads' HO_371001.out).2.1)
                     rintro e w88 ⟨rfl, hb⟩
                     have HS4_ := (hb.cell (World.block_lt_of_cell? _ _ (hHeld.2.2.2.2.1))).trans (hHeld.2.2.2.2.1)
                     have HS5_ := (hb.cell (World.block_lt_of_cell? _ _ (hHeld.2.2.2.2.2.1))).trans (hHeld.2.2.2.2.2.1)
                     have HS6_ := (hb.cell (World.block_lt_of_cell? _ _ (hHeld.2.2.2.2.2.2.1))).trans (hHeld.2.2.2.2.2.2.1)
                     have HS7_ := (hb.cell (World.block_lt_of_cell? _ _ (hHeld.2.2.2.2.2.2.2))).trans (hHeld.2.2.2.2.2.2.2)
                     refine ⟨_, rfl, ?_⟩
                     have n0_ := Aside0.mk (Kd.R_below (zb156) hb)
                     have n1_ := Aside0.mk (Kd.R_below (zb175) hb)
                     have n2_ := Aside0.mk (Kd.R_below (zb176) hb)
                     have n3_ := Aside0.mk (blk_below (g := gb359) (o := .cells #[.int .i64 x360000_1, .slice (some ad394) x360001_1.length co22] 53 (0, 0)) (zb155) hb)
                     have n4_ := Aside0.mk (blk_below (g := gb370) (o := .cells #[.int .i64 x371000_19, .slice (some ad393) x371001_19.length co85] 53 (0, 0)) (zb161) hb)
                     have n5_ := Aside0.mk (blk_below (g := gb377) (o := .cells #[.int .i64 x378000_19, u378001] 53 (0, 0)) (zb167) hb)
                     have n6_ := Aside0.mk (below_step (zb168) hb)
                     clear HO_360001
                     clear HO_371001
                     clear HO_378001
                     clear BK359
                     clear BK370
                     clear BK377
                     clear HB
                     have HO_360001 := n0_
                     have HO_371001 := n1_
                     have HO_378001 := n2_
                     have BK359 := n3_
                     have BK370 := n4_
                     have BK377 := n5_
                     have HB := n6_
                     clear n0_ n1_ n2_ n3_ n4_ n5_ n6_
                     (try clear hb)
                     (try clear hb2)
                     (try clear hk)
                     (try clear hi)
                     refine hK.out _ _ ⟨(blk_cell BK370.out 0).trans rfl, (blk_cell BK370.out 1).trans rfl, (blk_cell BK359.out 0).trans rfl, (blk_cell BK359.out 1).trans rfl, HS4_, HS5_, HS6_, HS7_⟩ (fun hHeld => ?_)
                     clear hK K
                     refine norm_ (a' := ?_) ?_ ?_
                     rotate_left
                     ·show Act.put _ (some 137) _ = _
                      simp only [Act.put, List.setIfInBounds_toArray, List.set_cons_zero, List.set_cons_succ, i64_w, i32_w]
                      rfl
                     refine pz 37 138 (bz 51 274877906943) rfl rfl ?_
                     refine pz 38 139 (bz 51 549755813887) rfl rfl ?_
                     refine pu 39 140 (bz 51 1099511627775) rfl rfl ?_
                     refine pu 40 141 (bz 51 2199023255551) rfl rfl ?_
                     refine pu 41 142 (bz 51 4398046511103) rfl rfl ?_
                     refine pu 42 143 (bz 51 8796093022207) rfl rfl ?_
                     refine pu 43 144 (bz 51 17592186044415) rfl rfl ?_
                     refine pu 44 145 (bz 51 35184372088831) rfl rfl ?_
                     refine pu 45 146 (bz 51 70368744177663) rfl rfl ?_
                     refine pu 46 147 (bz 51 140737488355327) rfl rfl ?_
                     refine pu 47 148 (bz 51 281474976710655) rfl rfl ?_
                     refine pu 48 149 (bz 51 562949953421311) rfl rfl ?_
                     refine pu 49 150 (bz 51 1125899906842623) rfl rfl ?_
                     refine pz 50 151 (bz 51 2251799813685247) rfl rfl ?_
                     refine done_ (done_of HT_.out (by kernel_rfl)) ?_
                     try go_wp2
                     go_meet
                     case rel => exact ⟨_, (true), (zb1), H', ⟨zb178⟩, ⟨zb156⟩, ⟨zb175⟩, ⟨zb176⟩, ⟨zb155⟩, ⟨zb161⟩, ⟨zb167⟩, ⟨zb168⟩⟩
                    ·replace c83 := Bool.eq_false_iff.mpr c83
                     subst c83
                     have H1 : (if x371000_19 > 0 then ((impl_MarksLate.f kj54 x371000_19 x371001_19 (wrap64 (x371000_19 - 1))).bind fun t396 => (laws_FnMarks.j3 kj54 l0 x6_1 (!t396) x371000_19 x371001_19)) else (laws_FnMarks.j3 kj54 l0 x6_1 false x371000_19 x371001_19)) = some r := by rw [if_neg (show ¬ (false = true) by decide)] at H; exact H
                     clear H
                     have H := H1
                     clear H1
                     by_cases c89 : x371000_19 > 0
                     ·as_aux_lemma =>
                      rw [if_pos c89] at H
                      have c89b0 : decide (0 < x371000_19) = true := decide_eq_true c89
                      clear c89
                      replace H := Option.bind_eq_some_iff.mp H
                      obtain ⟨t396, A900, H⟩ := H
                      replace H : (laws_FnMarks.j3 kj54 l0 x6_1 (!t396) x371000_19 x371001_19) = some r := H
                      have A90 := Aside0.mk A900
                      clear A900
                      have H' := Aside0.mk H
                      clear H
                      try go_wp2
                      have n0_ := Aside0.mk (Kd.R_drew HO_360001.out)
                      have n1_ := Aside0.mk (Kd.R_drew HO_371001.out)
                      have n2_ := Aside0.mk (Kd.R_drew HO_378001.out)
                      have n3_ := Aside0.mk (blk_drew BK359.out)
                      have n4_ := Aside0.mk (blk_drew BK370.out)
                      have n5_ := Aside0.mk (blk_drew BK377.out)
                      have n6_ := Aside0.mk (below_drew1 HB.out)
                      clear HO_360001
                      clear HO_371001
                      clear HO_378001
                      clear BK359
                      clear BK370
                      clear BK377
                      clear HB
                      have HO_360001 := n0_
                      have HO_371001 := n1_
                      have HO_378001 := n2_
                      have BK359 := n3_
                      have BK370 := n4_
                      have BK377 := n5_
                      have HB := n6_
                      clear n0_ n1_ n2_ n3_ n4_ n5_ n6_
                      obtain ⟨Ao92, co92, eo92⟩ := Kd.R_slice HO_371001.out
                      (first | subst eo92 | (injection eo92 with f1_ f2_ f3_; have f4_ := f1_.symm; have f5_ := f3_.symm; clear f1_ f2_ f3_; subst f4_; subst f5_))
                      have p393 : 0 ≤ (t363 : Int) := of_decide_eq_true (zb9)
                      have q393 : t363 < (x371001_19.length : Int) := of_decide_eq_true (zb9)
                      obtain ⟨ad393, e393, hx393_0, hx393_1⟩ := at_T63 (Kd.R_reads' HO_371001.out).2.2 t363 p393 q393
                      cases e393
                      replace p393 := eq_true p393
                      replace q393 := eq_true q393
                      have p394 : 0 ≤ (t363 : Int) := of_decide_eq_true (zb9)
                      have q394 : t363 < (x360001_1.length : Int) := of_decide_eq_true (zb9)
                      obtain ⟨ad394, e394, hx394_0, hx394_1⟩ := at_T63 (Kd.R_reads' HO_360001.out).2.2 t363 p394 q394
                      cases e394
                      replace p394 := eq_true p394
                      replace q394 := eq_true q394
                      refine start_ (n := 51) (S := fun w' => w'.cell? ⟨gb370, 0, none⟩ = some (.int .i64 x371000_19) ∧ w'.cell? ⟨gb370, 1, none⟩ = some (.slice (some ad393) x371001_19.length co92) ∧ w'.cell? ⟨gb359, 0, none⟩ = some (.int .i64 x360000_1) ∧ w'.cell? ⟨gb359, 1, none⟩ = some (.slice (some ad394) x360001_1.length co22) ∧ w'.cell? (ad393.add ((t363).toNat * 2)) = some (.int .i64 ((rd_T63 x371001_19 t363).f0)) ∧ w'.cell? ⟨(ad393.add ((t363).toNat * 2)).block, (ad393.add ((t363).toNat * 2)).off + 1, none⟩ = some (.bool ((rd_T63 x371001_19 t363).f1)) ∧ w'.cell? (ad394.add ((t363).toNat * 2)) = some (.int .i64 ((rd_T63 x360001_1 t363).f0)) ∧ w'.cell? ⟨(ad394.add ((t363).toNat * 2)).block, (ad394.add ((t363).toNat * 2)).off + 1, none⟩ = some (.bool ((rd_T63 x360001_1 t363).f1))) (ds := []) #[false, false, false, false, false, false, false, false, false, false, false, false, false, false, false, false, false, false, false, false, false, false, false, false, false, false, false, false, false, false, false, false, false, false, false, false, false, false, false, false, false, false, false, false, false, false, false, false, false, false, false] (by kernel_rfl) rfl rfl ⟨(blk_cell BK370.out 0).trans rfl, (blk_cell BK370.out 1).trans rfl, (blk_cell BK359.out 0).trans rfl, (blk_cell BK359.out 1).trans rfl, hx393_0, hx393_1, hx394_0, hx394_1⟩ (fun hHeld => ?_); refine with_tabW laws_FnMarks.tab18 laws_FnMarks.bits18 (fun HT_ HW_ => ?_)
                      generalize wc.drew = w91 at HO_360001 HO_371001 HO_378001 BK359 BK370 BK377 HB hx393_0 hx393_1 hx394_0 hx394_1 hHeld ⊢
                      refine pz 0 101 (bz 51 1) rfl rfl ?_
                      refine pz 2 103 (bz 51 5) rfl rfl ?_
                      refine tz 1 102 (bz 51 7) rfl rfl (Or.inl ⟨by rfl, by rintro w' ⟨s0, s1, s2, s3, s4, s5, s6, s7⟩; go_simp; with_reducible rfl⟩) hHeld ?_
                      refine tz 3 104 (bz 51 15) rfl rfl (Or.inl ⟨by rfl, by rintro w' ⟨s0, s1, s2, s3, s4, s5, s6, s7⟩; go_simp; with_reducible rfl⟩) hHeld ?_
                      refine pz 4 105 (bz 51 31) rfl rfl ?_
                      refine pz 5 106 (bz 51 63) rfl rfl ?_
                      refine pz 6 107 (bz 51 127) rfl rfl ?_
                      refine tz 7 108 (bz 51 255) rfl rfl (Or.inl ⟨by rfl, by rintro w' ⟨s0, s1, s2, s3, s4, s5, s6, s7⟩; go_simp; with_reducible rfl⟩) hHeld ?_
                      refine tz 8 109 (bz 51 511) rfl rfl (Or.inl ⟨by rfl, by rintro w' ⟨s0, s1, s2, s3, s4, s5, s6, s7⟩; go_simp; with_reducible rfl⟩) hHeld ?_
                      refine one_ (i := 9) (N := some 110) (bz 51 1023) rfl rfl (one_of HT_.out (by kernel_rfl)) (by decide) (fun K hK => ?_)
                      refine goes_ Try.func35 (by kernel_rfl) rfl #[.agg #[.int .i64 x371000_19, .slice (some ad393) x371001_19.length co92]] (by rfl) rfl rfl (zb10) ?_
                      with_reducible refine (impl_MarksLeast.calls kj54 x371000_19 _ _ x371001_19 t391 _ ?side1 ?side2 A67.out).mono ?_
                      (case side1 => exact zb179)
                      (case side2 => exact (Kd.R_reads' HO_371001.out).2.1)
                      rintro e w93 ⟨rfl, hb⟩
                      have HS4_ := (hb.cell (World.block_lt_of_cell? _ _ (hHeld.2.2.2.2.1))).trans (hHeld.2.2.2.2.1)
                      have HS5_ := (hb.cell (World.block_lt_of_cell? _ _ (hHeld.2.2.2.2.2.1))).trans (hHeld.2.2.2.2.2.1)
                      have HS6_ := (hb.cell (World.block_lt_of_cell? _ _ (hHeld.2.2.2.2.2.2.1))).trans (hHeld.2.2.2.2.2.2.1)
                      have HS7_ := (hb.cell (World.block_lt_of_cell? _ _ (hHeld.2.2.2.2.2.2.2))).trans (hHeld.2.2.2.2.2.2.2)
                      refine ⟨_, rfl, ?_⟩
                      have n0_ := Aside0.mk (Kd.R_below (zb156) hb)
                      have n1_ := Aside0.mk (Kd.R_below (zb175) hb)
                      have n2_ := Aside0.mk (Kd.R_below (zb176) hb)
                      have n3_ := Aside0.mk (blk_below (g := gb359) (o := .cells #[.int .i64 x360000_1, .slice (some ad394) x360001_1.length co22] 53 (0, 0)) (zb155) hb)
                      have n4_ := Aside0.mk (blk_below (g := gb370) (o := .cells #[.int .i64 x371000_19, .slice (some ad393) x371001_19.length co92] 53 (0, 0)) (zb161) hb)
                      have n5_ := Aside0.mk (blk_below (g := gb377) (o := .cells #[.int .i64 x378000_19, u378001] 53 (0, 0)) (zb167) hb)
                      have n6_ := Aside0.mk (below_step (zb168) hb)
                      clear HO_360001
                      clear HO_371001
                      clear HO_378001
                      clear BK359
                      clear BK370
                      clear BK377
                      clear HB
                      have HO_360001 := n0_
                      have HO_371001 := n1_
                      have HO_378001 := n2_
                      have BK359 := n3_
                      have BK370 := n4_
                      have BK377 := n5_
                      have HB := n6_
                      clear n0_ n1_ n2_ n3_ n4_ n5_ n6_
                      (try clear hb)
                      (try clear hb2)
                      (try clear hk)
                      (try clear hi)
                      refine hK.out _ _ ⟨(blk_cell BK370.out 0).trans rfl, (blk_cell BK370.out 1).trans rfl, (blk_cell BK359.out 0).trans rfl, (blk_cell BK359.out 1).trans rfl, HS4_, HS5_, HS6_, HS7_⟩ (fun hHeld => ?_)
                      clear hK K
                      refine norm_ (a' := ?_) ?_ ?_
                      rotate_left
                      ·show Act.put _ (some 110) _ = _
                       simp only [Act.put, List.setIfInBounds_toArray, List.set_cons_zero, List.set_cons_succ, i64_w, i32_w]
                       rfl
                      refine pz 10 111 (bz 51 2047) rfl rfl ?_
                      refine pz 11 112 (bz 51 4095) rfl rfl ?_
                      refine pz 12 113 (bz 51 8191) rfl rfl ?_
                      refine tz 13 114 (bz 51 16383) rfl rfl (Or.inl ⟨by rfl, by rintro w' ⟨s0, s1, s2, s3, s4, s5, s6, s7⟩; go_simp; with_reducible rfl⟩) hHeld ?_
                      refine one_ (i := 14) (N := some 115) (bz 51 32767) rfl rfl (one_of HT_.out (by kernel_rfl)) (by decide) (fun K hK => ?_)
                      refine goes_ Try.func28 (by kernel_rfl) rfl #[.agg #[.int .i64 x371000_19, .slice (some ad393) x371001_19.length co92]] (by rfl) rfl rfl (zb10) ?_
                      with_reducible refine (spec_MarksOk.calls kj54 x371000_19 _ _ x371001_19 true _ ?side1 ?side2 A72.out).mono ?_
                      (case side1 => exact zb179)
                      (case side2 => exact (Kd.R_reads' HO_371001.out).2.1)
                      rintro e w94 ⟨rfl, hb⟩
                      have HS4_ := (hb.cell (World.block_lt_of_cell? _ _ (hHeld.2.2.2.2.1))).trans (hHeld.2.2.2.2.1)
                      have HS5_ := (hb.cell (World.block_lt_of_cell? _ _ (hHeld.2.2.2.2.2.1))).trans (hHeld.2.2.2.2.2.1)
                      have HS6_ := (hb.cell (World.block_lt_of_cell? _ _ (hHeld.2.2.2.2.2.2.1))).trans (hHeld.2.2.2.2.2.2.1)
                      have HS7_ := (hb.cell (World.block_lt_of_cell? _ _ (hHeld.2.2.2.2.2.2.2))).trans (hHeld.2.2.2.2.2.2.2)
                      refine ⟨_, rfl, ?_⟩
                      have n0_ := Aside0.mk (Kd.R_below (zb156) hb)
                      have n1_ := Aside0.mk (Kd.R_below (zb175) hb)
                      have n2_ := Aside0.mk (Kd.R_below (zb176) hb)
                      have n3_ := Aside0.mk (blk_below (g := gb359) (o := .cells #[.int .i64 x360000_1, .slice (some ad394) x360001_1.length co22] 53 (0, 0)) (zb155) hb)
                      have n4_ := Aside0.mk (blk_below (g := gb370) (o := .cells #[.int .i64 x371000_19, .slice (some ad393) x371001_19.length co92] 53 (0, 0)) (zb161) hb)
                      have n5_ := Aside0.mk (blk_below (g := gb377) (o := .cells #[.int .i64 x378000_19, u378001] 53 (0, 0)) (zb167) hb)
                      have n6_ := Aside0.mk (below_step (zb168) hb)
                      clear HO_360001
                      clear HO_371001
                      clear HO_378001
                      clear BK359
                      clear BK370
                      clear BK377
                      clear HB
                      have HO_360001 := n0_
                      have HO_371001 := n1_
                      have HO_378001 := n2_
                      have BK359 := n3_
                      have BK370 := n4_
                      have BK377 := n5_
                      have HB := n6_
                      clear n0_ n1_ n2_ n3_ n4_ n5_ n6_
                      (try clear hb)
                      (try clear hb2)
                      (try clear hk)
                      (try clear hi)
                      refine hK.out _ _ ⟨(blk_cell BK370.out 0).trans rfl, (blk_cell BK370.out 1).trans rfl, (blk_cell BK359.out 0).trans rfl, (blk_cell BK359.out 1).trans rfl, HS4_, HS5_, HS6_, HS7_⟩ (fun hHeld => ?_)
                      clear hK K
                      refine norm_ (a' := ?_) ?_ ?_
                      rotate_left
                      ·show Act.put _ (some 115) _ = _
                       simp only [Act.put, List.setIfInBounds_toArray, List.set_cons_zero, List.set_cons_succ, i64_w, i32_w]
                       rfl
                      refine pz 15 116 (bz 51 65535) rfl rfl ?_
                      refine pz 16 117 (bz 51 131071) rfl rfl ?_
                      refine pz 17 118 (bz 51 262143) rfl rfl ?_
                      refine pz 18 119 (bz 51 524287) rfl rfl ?_
                      refine pz 20 121 (bz 51 1572863) rfl rfl ?_
                      refine pz 24 125 (bz 51 18350079) rfl rfl ?_
                      refine pz 26 127 (bz 51 85458943) rfl rfl ?_
                      refine tz 19 120 (bz 51 85983231) rfl rfl (Or.inl ⟨by rfl, by rintro w' ⟨s0, s1, s2, s3, s4, s5, s6, s7⟩; go_simp; with_reducible rfl⟩) hHeld ?_
                      refine pz 21 122 (bz 51 88080383) rfl rfl ?_
                      refine pz 22 123 (bz 51 92274687) rfl rfl ?_
                      refine tz 23 124 (bz 51 100663295) rfl rfl (Or.inl ⟨by rfl, by rintro w' ⟨s0, s1, s2, s3, s4, s5, s6, s7⟩; go_simp; with_reducible rfl⟩) hHeld ?_
                      refine tz 25 126 (bz 51 134217727) rfl rfl (Or.inl ⟨by rfl, by rintro w' ⟨s0, s1, s2, s3, s4, s5, s6, s7⟩; go_simp; with_reducible rfl⟩) hHeld ?_
                      refine pz 27 128 (bz 51 268435455) rfl rfl ?_
                      refine pz 28 129 (bz 51 536870911) rfl rfl ?_
                      refine tz 29 130 (bz 51 1073741823) rfl rfl (Or.inl ⟨by rfl, by rintro w' ⟨s0, s1, s2, s3, s4, s5, s6, s7⟩; go_simp; with_reducible rfl⟩) hHeld ?_
                      refine pz 30 131 (bz 51 2147483647) rfl rfl ?_
                      refine pz 31 132 (bz 51 4294967295) rfl rfl ?_
                      refine pz 32 133 (bz 51 8589934591) rfl rfl ?_
                      refine pz 34 135 (bz 51 25769803775) rfl rfl ?_
                      refine tz 33 134 (bz 51 34359738367) rfl rfl (Or.inl ⟨by rfl, by rintro w' ⟨s0, s1, s2, s3, s4, s5, s6, s7⟩; go_simp; with_reducible rfl⟩) hHeld ?_
                      refine tz 35 136 (bz 51 68719476735) rfl rfl (Or.inl ⟨by rfl, by rintro w' ⟨s0, s1, s2, s3, s4, s5, s6, s7⟩; go_simp; with_reducible rfl⟩) hHeld ?_
                      refine one_ (i := 36) (N := some 137) (bz 51 137438953471) rfl rfl (one_of HT_.out (by kernel_rfl)) (by decide) (fun K hK => ?_)
                      refine goes_ Try.func36 (by kernel_rfl) rfl #[.agg #[.int .i64 x371000_19, .slice (some ad393) x371001_19.length co92], .int .i64 x371000_19] (by rfl) rfl rfl (zb10) ?_
                      with_reducible refine (impl_MarksLate.calls kj54 x371000_19 _ _ x371001_19 x371000_19 false _ ?side1 ?side2 A82.out).mono ?_
                      (case side1 => exact zb179)
                      (case side2 => exact (Kd.R_reads' HO_371001.out).2.1)
                      rintro e w95 ⟨rfl, hb⟩
                      have HS4_ := (hb.cell (World.block_lt_of_cell? _ _ (hHeld.2.2.2.2.1))).trans (hHeld.2.2.2.2.1)
                      have HS5_ := (hb.cell (World.block_lt_of_cell? _ _ (hHeld.2.2.2.2.2.1))).trans (hHeld.2.2.2.2.2.1)
                      have HS6_ := (hb.cell (World.block_lt_of_cell? _ _ (hHeld.2.2.2.2.2.2.1))).trans (hHeld.2.2.2.2.2.2.1)
                      have HS7_ := (hb.cell (World.block_lt_of_cell? _ _ (hHeld.2.2.2.2.2.2.2))).trans (hHeld.2.2.2.2.2.2.2)
                      refine ⟨_, rfl, ?_⟩
                      have n0_ := Aside0.mk (Kd.R_below (zb156) hb)
                      have n1_ := Aside0.mk (Kd.R_below (zb175) hb)
                      have n2_ := Aside0.mk (Kd.R_below (zb176) hb)
                      have n3_ := Aside0.mk (blk_below (g := gb359) (o := .cells #[.int .i64 x360000_1, .slice (some ad394) x360001_1.length co22] 53 (0, 0)) (zb155) hb)
                      have n4_ := Aside0.mk (blk_below (g := gb370) (o := .cells #[.int .i64 x371000_19, .slice (some ad393) x371001_19.length co92] 53 (0, 0)) (zb161) hb)
                      have n5_ := Aside0.mk (blk_below (g := gb377) (o := .cells #[.int .i64 x378000_19, u378001] 53 (0, 0)) (zb167) hb)
                      have n6_ := Aside0.mk (below_step (zb168) hb)
                      clear HO_360001
                      clear HO_371001
                      clear HO_378001
                      clear BK359
                      clear BK370
                      clear BK377
                      clear HB
                      have HO_360001 := n0_
                      have HO_371001 := n1_
                      have HO_378001 := n2_
                      have BK359 := n3_
                      have BK370 := n4_
                      have BK377 := n5_
                      have HB := n6_
                      clear n0_ n1_ n2_ n3_ n4_ n5_ n6_
                      (try clear hb)
                      (try clear hb2)
                      (try clear hk)
                      (try clear hi)
                      refine hK.out _ _ ⟨(blk_cell BK370.out 0).trans rfl, (blk_cell BK370.out 1).trans rfl, (blk_cell BK359.out 0).trans rfl, (blk_cell BK359.out 1).trans rfl, HS4_, HS5_, HS6_, HS7_⟩ (fun hHeld => ?_)
                      clear hK K
                      refine norm_ (a' := ?_) ?_ ?_
                      rotate_left
                      ·show Act.put _ (some 137) _ = _
                       simp only [Act.put, List.setIfInBounds_toArray, List.set_cons_zero, List.set_cons_succ, i64_w, i32_w]
                       rfl
                      refine pz 37 138 (bz 51 274877906943) rfl rfl ?_
                      refine pz 38 139 (bz 51 549755813887) rfl rfl ?_
                      refine pz 39 140 (bz 51 1099511627775) rfl rfl ?_
                      refine tz 40 141 (bz 51 2199023255551) rfl rfl (Or.inl ⟨by rfl, by rintro w' ⟨s0, s1, s2, s3, s4, s5, s6, s7⟩; go_simp; with_reducible rfl⟩) hHeld ?_
                      refine pz 41 142 (bz 51 4398046511103) rfl rfl ?_
                      refine pz 42 143 (bz 51 8796093022207) rfl rfl ?_
                      refine pz 44 145 (bz 51 26388279066623) rfl rfl ?_
                      refine tz 43 144 (bz 51 35184372088831) rfl rfl (Or.inl ⟨by rfl, by rintro w' ⟨s0, s1, s2, s3, s4, s5, s6, s7⟩; go_simp; with_reducible rfl⟩) hHeld ?_
                      refine tz 45 146 (bz 51 70368744177663) rfl rfl (Or.inl ⟨by rfl, by rintro w' ⟨s0, s1, s2, s3, s4, s5, s6, s7⟩; go_simp; with_reducible rfl⟩) hHeld ?_
                      refine pz 46 147 (bz 51 140737488355327) rfl rfl ?_
                      refine one_ (i := 47) (N := some 148) (bz 51 281474976710655) rfl rfl (one_of HT_.out (by kernel_rfl)) (by decide) (fun K hK => ?_)
                      refine goes_ Try.func36 (by kernel_rfl) rfl #[.agg #[.int .i64 x371000_19, .slice (some ad393) x371001_19.length co92], .int .i64 (wrap64 (x371000_19 - 1))] (by rfl) rfl rfl (zb10) ?_
                      with_reducible refine (impl_MarksLate.calls kj54 x371000_19 _ _ x371001_19 (wrap64 (x371000_19 - 1)) t396 _ ?side1 ?side2 A90.out).mono ?_
                      (case side1 => exact zb179)
                      (case side2 => exact (Kd.R_reads' HO_371001.out).2.1)
                      rintro e w96 ⟨rfl, hb⟩
                      have HS4_ := (hb.cell (World.block_lt_of_cell? _ _ (hHeld.2.2.2.2.1))).trans (hHeld.2.2.2.2.1)
                      have HS5_ := (hb.cell (World.block_lt_of_cell? _ _ (hHeld.2.2.2.2.2.1))).trans (hHeld.2.2.2.2.2.1)
                      have HS6_ := (hb.cell (World.block_lt_of_cell? _ _ (hHeld.2.2.2.2.2.2.1))).trans (hHeld.2.2.2.2.2.2.1)
                      have HS7_ := (hb.cell (World.block_lt_of_cell? _ _ (hHeld.2.2.2.2.2.2.2))).trans (hHeld.2.2.2.2.2.2.2)
                      refine ⟨_, rfl, ?_⟩
                      have n0_ := Aside0.mk (Kd.R_below (zb156) hb)
                      have n1_ := Aside0.mk (Kd.R_below (zb175) hb)
                      have n2_ := Aside0.mk (Kd.R_below (zb176) hb)
                      have n3_ := Aside0.mk (blk_below (g := gb359) (o := .cells #[.int .i64 x360000_1, .slice (some ad394) x360001_1.length co22] 53 (0, 0)) (zb155) hb)
                      have n4_ := Aside0.mk (blk_below (g := gb370) (o := .cells #[.int .i64 x371000_19, .slice (some ad393) x371001_19.length co92] 53 (0, 0)) (zb161) hb)
                      have n5_ := Aside0.mk (blk_below (g := gb377) (o := .cells #[.int .i64 x378000_19, u378001] 53 (0, 0)) (zb167) hb)
                      have n6_ := Aside0.mk (below_step (zb168) hb)
                      clear HO_360001
                      clear HO_371001
                      clear HO_378001
                      clear BK359
                      clear BK370
                      clear BK377
                      clear HB
                      have HO_360001 := n0_
                      have HO_371001 := n1_
                      have HO_378001 := n2_
                      have BK359 := n3_
                      have BK370 := n4_
                      have BK377 := n5_
                      have HB := n6_
                      clear n0_ n1_ n2_ n3_ n4_ n5_ n6_
                      (try clear hb)
                      (try clear hb2)
                      (try clear hk)
                      (try clear hi)
                      refine hK.out _ _ ⟨(blk_cell BK370.out 0).trans rfl, (blk_cell BK370.out 1).trans rfl, (blk_cell BK359.out 0).trans rfl, (blk_cell BK359.out 1).trans rfl, HS4_, HS5_, HS6_, HS7_⟩ (fun hHeld => ?_)
                      clear hK K
                      refine norm_ (a' := ?_) ?_ ?_
                      rotate_left
                      ·show Act.put _ (some 148) _ = _
                       simp only [Act.put, List.setIfInBounds_toArray, List.set_cons_zero, List.set_cons_succ, i64_w, i32_w]
                       rfl
                      refine pz 48 149 (bz 51 562949953421311) rfl rfl ?_
                      refine pz 49 150 (bz 51 1125899906842623) rfl rfl ?_
                      refine pz 50 151 (bz 51 2251799813685247) rfl rfl ?_
                      refine done_ (done_of HT_.out (by kernel_rfl)) ?_
                      try go_wp2
                      go_meet
                      case rel => exact ⟨_, (!t396), (zb1), H', ⟨zb178⟩, ⟨zb156⟩, ⟨zb175⟩, ⟨zb176⟩, ⟨zb155⟩, ⟨zb161⟩, ⟨zb167⟩, ⟨zb168⟩⟩
                     ·as_aux_lemma =>
                      rw [if_neg c89] at H
                      have c89b0 : decide (0 < x371000_19) = false := decide_eq_false c89
                      clear c89
                      have H' := Aside0.mk H
                      clear H
                      try go_wp2
                      have n0_ := Aside0.mk (Kd.R_drew HO_360001.out)
                      have n1_ := Aside0.mk (Kd.R_drew HO_371001.out)
                      have n2_ := Aside0.mk (Kd.R_drew HO_378001.out)
                      have n3_ := Aside0.mk (blk_drew BK359.out)
                      have n4_ := Aside0.mk (blk_drew BK370.out)
                      have n5_ := Aside0.mk (blk_drew BK377.out)
                      have n6_ := Aside0.mk (below_drew1 HB.out)
                      clear HO_360001
                      clear HO_371001
                      clear HO_378001
                      clear BK359
                      clear BK370
                      clear BK377
                      clear HB
                      have HO_360001 := n0_
                      have HO_371001 := n1_
                      have HO_378001 := n2_
                      have BK359 := n3_
                      have BK370 := n4_
                      have BK377 := n5_
                      have HB := n6_
                      clear n0_ n1_ n2_ n3_ n4_ n5_ n6_
                      obtain ⟨Ao98, co98, eo98⟩ := Kd.R_slice HO_371001.out
                      (first | subst eo98 | (injection eo98 with f1_ f2_ f3_; have f4_ := f1_.symm; have f5_ := f3_.symm; clear f1_ f2_ f3_; subst f4_; subst f5_))
                      have p393 : 0 ≤ (t363 : Int) := of_decide_eq_true (zb9)
                      have q393 : t363 < (x371001_19.length : Int) := of_decide_eq_true (zb9)
                      obtain ⟨ad393, e393, hx393_0, hx393_1⟩ := at_T63 (Kd.R_reads' HO_371001.out).2.2 t363 p393 q393
                      cases e393
                      replace p393 := eq_true p393
                      replace q393 := eq_true q393
                      have p394 : 0 ≤ (t363 : Int) := of_decide_eq_true (zb9)
                      have q394 : t363 < (x360001_1.length : Int) := of_decide_eq_true (zb9)
                      obtain ⟨ad394, e394, hx394_0, hx394_1⟩ := at_T63 (Kd.R_reads' HO_360001.out).2.2 t363 p394 q394
                      cases e394
                      replace p394 := eq_true p394
                      replace q394 := eq_true q394
                      refine start_ (n := 51) (S := fun w' => w'.cell? ⟨gb370, 0, none⟩ = some (.int .i64 x371000_19) ∧ w'.cell? ⟨gb370, 1, none⟩ = some (.slice (some ad393) x371001_19.length co98) ∧ w'.cell? ⟨gb359, 0, none⟩ = some (.int .i64 x360000_1) ∧ w'.cell? ⟨gb359, 1, none⟩ = some (.slice (some ad394) x360001_1.length co22) ∧ w'.cell? (ad393.add ((t363).toNat * 2)) = some (.int .i64 ((rd_T63 x371001_19 t363).f0)) ∧ w'.cell? ⟨(ad393.add ((t363).toNat * 2)).block, (ad393.add ((t363).toNat * 2)).off + 1, none⟩ = some (.bool ((rd_T63 x371001_19 t363).f1)) ∧ w'.cell? (ad394.add ((t363).toNat * 2)) = some (.int .i64 ((rd_T63 x360001_1 t363).f0)) ∧ w'.cell? ⟨(ad394.add ((t363).toNat * 2)).block, (ad394.add ((t363).toNat * 2)).off + 1, none⟩ = some (.bool ((rd_T63 x360001_1 t363).f1))) (ds := []) #[false, false, false, false, false, false, false, false, false, false, false, false, false, false, false, false, false, false, false, false, false, false, false, false, false, false, false, false, false, false, false, false, false, false, false, false, false, false, false, false, false, false, false, false, false, false, false, false, false, false, false] (by kernel_rfl) rfl rfl ⟨(blk_cell BK370.out 0).trans rfl, (blk_cell BK370.out 1).trans rfl, (blk_cell BK359.out 0).trans rfl, (blk_cell BK359.out 1).trans rfl, hx393_0, hx393_1, hx394_0, hx394_1⟩ (fun hHeld => ?_); refine with_tabW laws_FnMarks.tab18 laws_FnMarks.bits18 (fun HT_ HW_ => ?_)
                      generalize wc.drew = w97 at HO_360001 HO_371001 HO_378001 BK359 BK370 BK377 HB hx393_0 hx393_1 hx394_0 hx394_1 hHeld ⊢
                      refine pz 0 101 (bz 51 1) rfl rfl ?_
                      refine pz 2 103 (bz 51 5) rfl rfl ?_
                      refine tz 1 102 (bz 51 7) rfl rfl (Or.inl ⟨by rfl, by rintro w' ⟨s0, s1, s2, s3, s4, s5, s6, s7⟩; go_simp; with_reducible rfl⟩) hHeld ?_
                      refine tz 3 104 (bz 51 15) rfl rfl (Or.inl ⟨by rfl, by rintro w' ⟨s0, s1, s2, s3, s4, s5, s6, s7⟩; go_simp; with_reducible rfl⟩) hHeld ?_
                      refine pz 4 105 (bz 51 31) rfl rfl ?_
                      refine pz 5 106 (bz 51 63) rfl rfl ?_
                      refine pz 6 107 (bz 51 127) rfl rfl ?_
                      refine tz 7 108 (bz 51 255) rfl rfl (Or.inl ⟨by rfl, by rintro w' ⟨s0, s1, s2, s3, s4, s5, s6, s7⟩; go_simp; with_reducible rfl⟩) hHeld ?_
                      refine tz 8 109 (bz 51 511) rfl rfl (Or.inl ⟨by rfl, by rintro w' ⟨s0, s1, s2, s3, s4, s5, s6, s7⟩; go_simp; with_reducible rfl⟩) hHeld ?_
                      refine one_ (i := 9) (N := some 110) (bz 51 1023) rfl rfl (one_of HT_.out (by kernel_rfl)) (by decide) (fun K hK => ?_)
                      refine goes_ Try.func35 (by kernel_rfl) rfl #[.agg #[.int .i64 x371000_19, .slice (some ad393) x371001_19.length co98]] (by rfl) rfl rfl (zb10) ?_
                      with_reducible refine (impl_MarksLeast.calls kj54 x371000_19 _ _ x371001_19 t391 _ ?side1 ?side2 A67.out).mono ?_
                      (case side1 => exact zb179)
                      (case side2 => exact (Kd.R_reads' HO_371001.out).2.1)
                      rintro e w99 ⟨rfl, hb⟩
                      have HS4_ := (hb.cell (World.block_lt_of_cell? _ _ (hHeld.2.2.2.2.1))).trans (hHeld.2.2.2.2.1)
                      have HS5_ := (hb.cell (World.block_lt_of_cell? _ _ (hHeld.2.2.2.2.2.1))).trans (hHeld.2.2.2.2.2.1)
                      have HS6_ := (hb.cell (World.block_lt_of_cell? _ _ (hHeld.2.2.2.2.2.2.1))).trans (hHeld.2.2.2.2.2.2.1)
                      have HS7_ := (hb.cell (World.block_lt_of_cell? _ _ (hHeld.2.2.2.2.2.2.2))).trans (hHeld.2.2.2.2.2.2.2)
                      refine ⟨_, rfl, ?_⟩
                      have n0_ := Aside0.mk (Kd.R_below (zb156) hb)
                      have n1_ := Aside0.mk (Kd.R_below (zb175) hb)
                      have n2_ := Aside0.mk (Kd.R_below (zb176) hb)
                      have n3_ := Aside0.mk (blk_below (g := gb359) (o := .cells #[.int .i64 x360000_1, .slice (some ad394) x360001_1.length co22] 53 (0, 0)) (zb155) hb)
                      have n4_ := Aside0.mk (blk_below (g := gb370) (o := .cells #[.int .i64 x371000_19, .slice (some ad393) x371001_19.length co98] 53 (0, 0)) (zb161) hb)
                      have n5_ := Aside0.mk (blk_below (g := gb377) (o := .cells #[.int .i64 x378000_19, u378001] 53 (0, 0)) (zb167) hb)
                      have n6_ := Aside0.mk (below_step (zb168) hb)
                      clear HO_360001
                      clear HO_371001
                      clear HO_378001
                      clear BK359
                      clear BK370
                      clear BK377
                      clear HB
                      have HO_360001 := n0_
                      have HO_371001 := n1_
                      have HO_378001 := n2_
                      have BK359 := n3_
                      have BK370 := n4_
                      have BK377 := n5_
                      have HB := n6_
                      clear n0_ n1_ n2_ n3_ n4_ n5_ n6_
                      (try clear hb)
                      (try clear hb2)
                      (try clear hk)
                      (try clear hi)
                      refine hK.out _ _ ⟨(blk_cell BK370.out 0).trans rfl, (blk_cell BK370.out 1).trans rfl, (blk_cell BK359.out 0).trans rfl, (blk_cell BK359.out 1).trans rfl, HS4_, HS5_, HS6_, HS7_⟩ (fun hHeld => ?_)
                      clear hK K
                      refine norm_ (a' := ?_) ?_ ?_
                      rotate_left
                      ·show Act.put _ (some 110) _ = _
                       simp only [Act.put, List.setIfInBounds_toArray, List.set_cons_zero, List.set_cons_succ, i64_w, i32_w]
                       rfl
                      refine pz 10 111 (bz 51 2047) rfl rfl ?_
                      refine pz 11 112 (bz 51 4095) rfl rfl ?_
                      refine pz 12 113 (bz 51 8191) rfl rfl ?_
                      refine tz 13 114 (bz 51 16383) rfl rfl (Or.inl ⟨by rfl, by rintro w' ⟨s0, s1, s2, s3, s4, s5, s6, s7⟩; go_simp; with_reducible rfl⟩) hHeld ?_
                      refine one_ (i := 14) (N := some 115) (bz 51 32767) rfl rfl (one_of HT_.out (by kernel_rfl)) (by decide) (fun K hK => ?_)
                      refine goes_ Try.func28 (by kernel_rfl) rfl #[.agg #[.int .i64 x371000_19, .slice (some ad393) x371001_19.length co98]] (by rfl) rfl rfl (zb10) ?_
                      with_reducible refine (spec_MarksOk.calls kj54 x371000_19 _ _ x371001_19 true _ ?side1 ?side2 A72.out).mono ?_
                      (case side1 => exact zb179)
                      (case side2 => exact (Kd.R_reads' HO_371001.out).2.1)
                      rintro e w100 ⟨rfl, hb⟩
                      have HS4_ := (hb.cell (World.block_lt_of_cell? _ _ (hHeld.2.2.2.2.1))).trans (hHeld.2.2.2.2.1)
                      have HS5_ := (hb.cell (World.block_lt_of_cell? _ _ (hHeld.2.2.2.2.2.1))).trans (hHeld.2.2.2.2.2.1)
                      have HS6_ := (hb.cell (World.block_lt_of_cell? _ _ (hHeld.2.2.2.2.2.2.1))).trans (hHeld.2.2.2.2.2.2.1)
                      have HS7_ := (hb.cell (World.block_lt_of_cell? _ _ (hHeld.2.2.2.2.2.2.2))).trans (hHeld.2.2.2.2.2.2.2)
                      refine ⟨_, rfl, ?_⟩
                      have n0_ := Aside0.mk (Kd.R_below (zb156) hb)
                      have n1_ := Aside0.mk (Kd.R_below (zb175) hb)
                      have n2_ := Aside0.mk (Kd.R_below (zb176) hb)
                      have n3_ := Aside0.mk (blk_below (g := gb359) (o := .cells #[.int .i64 x360000_1, .slice (some ad394) x360001_1.length co22] 53 (0, 0)) (zb155) hb)
                      have n4_ := Aside0.mk (blk_below (g := gb370) (o := .cells #[.int .i64 x371000_19, .slice (some ad393) x371001_19.length co98] 53 (0, 0)) (zb161) hb)
                      have n5_ := Aside0.mk (blk_below (g := gb377) (o := .cells #[.int .i64 x378000_19, u378001] 53 (0, 0)) (zb167) hb)
                      have n6_ := Aside0.mk (below_step (zb168) hb)
                      clear HO_360001
                      clear HO_371001
                      clear HO_378001
                      clear BK359
                      clear BK370
                      clear BK377
                      clear HB
                      have HO_360001 := n0_
                      have HO_371001 := n1_
                      have HO_378001 := n2_
                      have BK359 := n3_
                      have BK370 := n4_
                      have BK377 := n5_
                      have HB := n6_
                      clear n0_ n1_ n2_ n3_ n4_ n5_ n6_
                      (try clear hb)
                      (try clear hb2)
                      (try clear hk)
                      (try clear hi)
                      refine hK.out _ _ ⟨(blk_cell BK370.out 0).trans rfl, (blk_cell BK370.out 1).trans rfl, (blk_cell BK359.out 0).trans rfl, (blk_cell BK359.out 1).trans rfl, HS4_, HS5_, HS6_, HS7_⟩ (fun hHeld => ?_)
                      clear hK K
                      refine norm_ (a' := ?_) ?_ ?_
                      rotate_left
                      ·show Act.put _ (some 115) _ = _
                       simp only [Act.put, List.setIfInBounds_toArray, List.set_cons_zero, List.set_cons_succ, i64_w, i32_w]
                       rfl
                      refine pz 15 116 (bz 51 65535) rfl rfl ?_
                      refine pz 16 117 (bz 51 131071) rfl rfl ?_
                      refine pz 17 118 (bz 51 262143) rfl rfl ?_
                      refine pz 18 119 (bz 51 524287) rfl rfl ?_
                      refine pz 20 121 (bz 51 1572863) rfl rfl ?_
                      refine pz 24 125 (bz 51 18350079) rfl rfl ?_
                      refine pz 26 127 (bz 51 85458943) rfl rfl ?_
                      refine tz 19 120 (bz 51 85983231) rfl rfl (Or.inl ⟨by rfl, by rintro w' ⟨s0, s1, s2, s3, s4, s5, s6, s7⟩; go_simp; with_reducible rfl⟩) hHeld ?_
                      refine pz 21 122 (bz 51 88080383) rfl rfl ?_
                      refine pz 22 123 (bz 51 92274687) rfl rfl ?_
                      refine tz 23 124 (bz 51 100663295) rfl rfl (Or.inl ⟨by rfl, by rintro w' ⟨s0, s1, s2, s3, s4, s5, s6, s7⟩; go_simp; with_reducible rfl⟩) hHeld ?_
                      refine tz 25 126 (bz 51 134217727) rfl rfl (Or.inl ⟨by rfl, by rintro w' ⟨s0, s1, s2, s3, s4, s5, s6, s7⟩; go_simp; with_reducible rfl⟩) hHeld ?_
                      refine pz 27 128 (bz 51 268435455) rfl rfl ?_
                      refine pz 28 129 (bz 51 536870911) rfl rfl ?_
                      refine tz 29 130 (bz 51 1073741823) rfl rfl (Or.inl ⟨by rfl, by rintro w' ⟨s0, s1, s2, s3, s4, s5, s6, s7⟩; go_simp; with_reducible rfl⟩) hHeld ?_
                      refine pz 30 131 (bz 51 2147483647) rfl rfl ?_
                      refine pz 31 132 (bz 51 4294967295) rfl rfl ?_
                      refine pz 32 133 (bz 51 8589934591) rfl rfl ?_
                      refine pz 34 135 (bz 51 25769803775) rfl rfl ?_
                      refine tz 33 134 (bz 51 34359738367) rfl rfl (Or.inl ⟨by rfl, by rintro w' ⟨s0, s1, s2, s3, s4, s5, s6, s7⟩; go_simp; with_reducible rfl⟩) hHeld ?_
                      refine tz 35 136 (bz 51 68719476735) rfl rfl (Or.inl ⟨by rfl, by rintro w' ⟨s0, s1, s2, s3, s4, s5, s6, s7⟩; go_simp; with_reducible rfl⟩) hHeld ?_
                      refine one_ (i := 36) (N := some 137) (bz 51 137438953471) rfl rfl (one_of HT_.out (by kernel_rfl)) (by decide) (fun K hK => ?_)
                      refine goes_ Try.func36 (by kernel_rfl) rfl #[.agg #[.int .i64 x371000_19, .slice (some ad393) x371001_19.length co98], .int .i64 x371000_19] (by rfl) rfl rfl (zb10) ?_
                      with_reducible refine (impl_MarksLate.calls kj54 x371000_19 _ _ x371001_19 x371000_19 false _ ?side1 ?side2 A82.out).mono ?_
                      (case side1 => exact zb179)
                      (case side2 => exact (Kd.R_reads' HO_371001.out).2.1)
                      rintro e w101 ⟨rfl, hb⟩
                      have HS4_ := (hb.cell (World.block_lt_of_cell? _ _ (hHeld.2.2.2.2.1))).trans (hHeld.2.2.2.2.1)
                      have HS5_ := (hb.cell (World.block_lt_of_cell? _ _ (hHeld.2.2.2.2.2.1))).trans (hHeld.2.2.2.2.2.1)
                      have HS6_ := (hb.cell (World.block_lt_of_cell? _ _ (hHeld.2.2.2.2.2.2.1))).trans (hHeld.2.2.2.2.2.2.1)
                      have HS7_ := (hb.cell (World.block_lt_of_cell? _ _ (hHeld.2.2.2.2.2.2.2))).trans (hHeld.2.2.2.2.2.2.2)
                      refine ⟨_, rfl, ?_⟩
                      have n0_ := Aside0.mk (Kd.R_below (zb156) hb)
                      have n1_ := Aside0.mk (Kd.R_below (zb175) hb)
                      have n2_ := Aside0.mk (Kd.R_below (zb176) hb)
                      have n3_ := Aside0.mk (blk_below (g := gb359) (o := .cells #[.int .i64 x360000_1, .slice (some ad394) x360001_1.length co22] 53 (0, 0)) (zb155) hb)
                      have n4_ := Aside0.mk (blk_below (g := gb370) (o := .cells #[.int .i64 x371000_19, .slice (some ad393) x371001_19.length co98] 53 (0, 0)) (zb161) hb)
                      have n5_ := Aside0.mk (blk_below (g := gb377) (o := .cells #[.int .i64 x378000_19, u378001] 53 (0, 0)) (zb167) hb)
                      have n6_ := Aside0.mk (below_step (zb168) hb)
                      clear HO_360001
                      clear HO_371001
                      clear HO_378001
                      clear BK359
                      clear BK370
                      clear BK377
                      clear HB
                      have HO_360001 := n0_
                      have HO_371001 := n1_
                      have HO_378001 := n2_
                      have BK359 := n3_
                      have BK370 := n4_
                      have BK377 := n5_
                      have HB := n6_
                      clear n0_ n1_ n2_ n3_ n4_ n5_ n6_
                      (try clear hb)
                      (try clear hb2)
                      (try clear hk)
                      (try clear hi)
                      refine hK.out _ _ ⟨(blk_cell BK370.out 0).trans rfl, (blk_cell BK370.out 1).trans rfl, (blk_cell BK359.out 0).trans rfl, (blk_cell BK359.out 1).trans rfl, HS4_, HS5_, HS6_, HS7_⟩ (fun hHeld => ?_)
                      clear hK K
                      refine norm_ (a' := ?_) ?_ ?_
                      rotate_left
                      ·show Act.put _ (some 137) _ = _
                       simp only [Act.put, List.setIfInBounds_toArray, List.set_cons_zero, List.set_cons_succ, i64_w, i32_w]
                       rfl
                      refine pz 37 138 (bz 51 274877906943) rfl rfl ?_
                      refine pz 38 139 (bz 51 549755813887) rfl rfl ?_
                      refine pz 39 140 (bz 51 1099511627775) rfl rfl ?_
                      refine tz 40 141 (bz 51 2199023255551) rfl rfl (Or.inl ⟨by rfl, by rintro w' ⟨s0, s1, s2, s3, s4, s5, s6, s7⟩; go_simp; with_reducible rfl⟩) hHeld ?_
                      refine pz 41 142 (bz 51 4398046511103) rfl rfl ?_
                      refine pz 42 143 (bz 51 8796093022207) rfl rfl ?_
                      refine pu 43 144 (bz 51 17592186044415) rfl rfl ?_
                      refine pu 44 145 (bz 51 35184372088831) rfl rfl ?_
                      refine pu 45 146 (bz 51 70368744177663) rfl rfl ?_
                      refine pu 46 147 (bz 51 140737488355327) rfl rfl ?_
                      refine pu 47 148 (bz 51 281474976710655) rfl rfl ?_
                      refine pu 48 149 (bz 51 562949953421311) rfl rfl ?_
                      refine pz 49 150 (bz 51 1125899906842623) rfl rfl ?_
                      refine pz 50 151 (bz 51 2251799813685247) rfl rfl ?_
                      refine done_ (done_of HT_.out (by kernel_rfl)) ?_
                      try go_wp2
                      go_meet
                      case rel => exact ⟨_, (false), (zb1), H', ⟨zb178⟩, ⟨zb156⟩, ⟨zb175⟩, ⟨zb176⟩, ⟨zb155⟩, ⟨zb161⟩, ⟨zb167⟩, ⟨zb168⟩⟩
                  ·rw [if_neg c76] at H
                   exact absurd H (by simp)
                 ·rw [if_neg c75] at H
                  exact absurd H (by simp)
                ·rw [if_neg c74] at H
                 exact absurd H (by simp)
               ·replace c73 := Bool.eq_false_iff.mpr c73
                subst c73
                have H1 : (laws_FnMarks.j3 kj54 l0 x6_1 true x371000_19 x371001_19) = some r := by rw [if_neg (show ¬ (false = true) by decide)] at H; exact H
                clear H
                have H := H1
                clear H1
                have H' := Aside0.mk H
                clear H
                try go_wp2
                have n0_ := Aside0.mk (Kd.R_drew HO_360001.out)
                have n1_ := Aside0.mk (Kd.R_drew HO_371001.out)
                have n2_ := Aside0.mk (Kd.R_drew HO_378001.out)
                have n3_ := Aside0.mk (blk_drew BK359.out)
                have n4_ := Aside0.mk (blk_drew BK370.out)
                have n5_ := Aside0.mk (blk_drew BK377.out)
                have n6_ := Aside0.mk (below_drew1 HB.out)
                clear HO_360001
                clear HO_371001
                clear HO_378001
                clear BK359
                clear BK370
                clear BK377
                clear HB
                have HO_360001 := n0_
                have HO_371001 := n1_
                have HO_378001 := n2_
                have BK359 := n3_
                have BK370 := n4_
                have BK377 := n5_
                have HB := n6_
                clear n0_ n1_ n2_ n3_ n4_ n5_ n6_
                obtain ⟨Ao103, co103, eo103⟩ := Kd.R_slice HO_371001.out
                (first | subst eo103 | (injection eo103 with f1_ f2_ f3_; have f4_ := f1_.symm; have f5_ := f3_.symm; clear f1_ f2_ f3_; subst f4_; subst f5_))
                refine start_ (n := 51) (S := fun w' => w'.cell? ⟨gb370, 0, none⟩ = some (.int .i64 x371000_19) ∧ w'.cell? ⟨gb370, 1, none⟩ = some (.slice Ao103 x371001_19.length co103) ∧ w'.cell? ⟨gb359, 0, none⟩ = some (.int .i64 x360000_1) ∧ w'.cell? ⟨gb359, 1, none⟩ = some (.slice Ao22 x360001_1.length co22)) (ds := []) #[false, false, false, false, false, false, false, false, false, false, false, false, false, false, false, false, false, false, false, false, false, false, false, false, false, false, false, false, false, false, false, false, false, false, false, false, false, false, false, false, false, false, false, false, false, false, false, false, false, false, false] (by kernel_rfl) rfl rfl ⟨(blk_cell BK370.out 0).trans rfl, (blk_cell BK370.out 1).trans rfl, (blk_cell BK359.out 0).trans rfl, (blk_cell BK359.out 1).trans rfl⟩ (fun hHeld => ?_); refine with_tabW laws_FnMarks.tab18 laws_FnMarks.bits18 (fun HT_ HW_ => ?_)
                generalize wc.drew = w102 at HO_360001 HO_371001 HO_378001 BK359 BK370 BK377 HB hHeld ⊢
                refine pz 0 101 (bz 51 1) rfl rfl ?_
                refine pz 2 103 (bz 51 5) rfl rfl ?_
                refine tz 1 102 (bz 51 7) rfl rfl (Or.inl ⟨by rfl, by rintro w' ⟨s0, s1, s2, s3⟩; go_simp; with_reducible rfl⟩) hHeld ?_
                refine tz 3 104 (bz 51 15) rfl rfl (Or.inl ⟨by rfl, by rintro w' ⟨s0, s1, s2, s3⟩; go_simp; with_reducible rfl⟩) hHeld ?_
                refine pz 4 105 (bz 51 31) rfl rfl ?_
                refine pz 5 106 (bz 51 63) rfl rfl ?_
                refine pz 6 107 (bz 51 127) rfl rfl ?_
                refine tz 7 108 (bz 51 255) rfl rfl (Or.inl ⟨by rfl, by rintro w' ⟨s0, s1, s2, s3⟩; go_simp; with_reducible rfl⟩) hHeld ?_
                refine tz 8 109 (bz 51 511) rfl rfl (Or.inl ⟨by rfl, by rintro w' ⟨s0, s1, s2, s3⟩; go_simp; with_reducible rfl⟩) hHeld ?_
                refine one_ (i := 9) (N := some 110) (bz 51 1023) rfl rfl (one_of HT_.out (by kernel_rfl)) (by decide) (fun K hK => ?_)
                refine goes_ Try.func35 (by kernel_rfl) rfl #[.agg #[.int .i64 x371000_19, .slice Ao103 x371001_19.length co103]] (by rfl) rfl rfl (zb10) ?_
                with_reducible refine (impl_MarksLeast.calls kj54 x371000_19 _ _ x371001_19 t391 _ ?side1 ?side2 A67.out).mono ?_
                (case side1 => exact zb179)
                (case side2 => exact (Kd.R_reads' HO_371001.out).2.1)
                rintro e w104 ⟨rfl, hb⟩
                refine ⟨_, rfl, ?_⟩
                have n0_ := Aside0.mk (Kd.R_below (zb156) hb)
                have n1_ := Aside0.mk (Kd.R_below (zb175) hb)
                have n2_ := Aside0.mk (Kd.R_below (zb176) hb)
                have n3_ := Aside0.mk (blk_below (g := gb359) (o := .cells #[.int .i64 x360000_1, .slice Ao22 x360001_1.length co22] 53 (0, 0)) (zb155) hb)
                have n4_ := Aside0.mk (blk_below (g := gb370) (o := .cells #[.int .i64 x371000_19, .slice Ao103 x371001_19.length co103] 53 (0, 0)) (zb161) hb)
                have n5_ := Aside0.mk (blk_below (g := gb377) (o := .cells #[.int .i64 x378000_19, u378001] 53 (0, 0)) (zb167) hb)
                have n6_ := Aside0.mk (below_step (zb168) hb)
                clear HO_360001
                clear HO_371001
                clear HO_378001
                clear BK359
                clear BK370
                clear BK377
                clear HB
                have HO_360001 := n0_
                have HO_371001 := n1_
                have HO_378001 := n2_
                have BK359 := n3_
                have BK370 := n4_
                have BK377 := n5_
                have HB := n6_
                clear n0_ n1_ n2_ n3_ n4_ n5_ n6_
                (try clear hb)
                (try clear hb2)
                (try clear hk)
                (try clear hi)
                refine hK.out _ _ ⟨(blk_cell BK370.out 0).trans rfl, (blk_cell BK370.out 1).trans rfl, (blk_cell BK359.out 0).trans rfl, (blk_cell BK359.out 1).trans rfl⟩ (fun hHeld => ?_)
                clear hK K
                refine norm_ (a' := ?_) ?_ ?_
                rotate_left
                ·show Act.put _ (some 110) _ = _
                 simp only [Act.put, List.setIfInBounds_toArray, List.set_cons_zero, List.set_cons_succ, i64_w, i32_w]
                 rfl
                refine pz 10 111 (bz 51 2047) rfl rfl ?_
                refine pz 11 112 (bz 51 4095) rfl rfl ?_
                refine pz 12 113 (bz 51 8191) rfl rfl ?_
                refine tz 13 114 (bz 51 16383) rfl rfl (Or.inl ⟨by rfl, by rintro w' ⟨s0, s1, s2, s3⟩; go_simp; with_reducible rfl⟩) hHeld ?_
                refine one_ (i := 14) (N := some 115) (bz 51 32767) rfl rfl (one_of HT_.out (by kernel_rfl)) (by decide) (fun K hK => ?_)
                refine goes_ Try.func28 (by kernel_rfl) rfl #[.agg #[.int .i64 x371000_19, .slice Ao103 x371001_19.length co103]] (by rfl) rfl rfl (zb10) ?_
                with_reducible refine (spec_MarksOk.calls kj54 x371000_19 _ _ x371001_19 false _ ?side1 ?side2 A72.out).mono ?_
                (case side1 => exact zb179)
                (case side2 => exact (Kd.R_reads' HO_371001.out).2.1)
                rintro e w105 ⟨rfl, hb⟩
                refine ⟨_, rfl, ?_⟩
                have n0_ := Aside0.mk (Kd.R_below (zb156) hb)
                have n1_ := Aside0.mk (Kd.R_below (zb175) hb)
                have n2_ := Aside0.mk (Kd.R_below (zb176) hb)
                have n3_ := Aside0.mk (blk_below (g := gb359) (o := .cells #[.int .i64 x360000_1, .slice Ao22 x360001_1.length co22] 53 (0, 0)) (zb155) hb)
                have n4_ := Aside0.mk (blk_below (g := gb370) (o := .cells #[.int .i64 x371000_19, .slice Ao103 x371001_19.length co103] 53 (0, 0)) (zb161) hb)
                have n5_ := Aside0.mk (blk_below (g := gb377) (o := .cells #[.int .i64 x378000_19, u378001] 53 (0, 0)) (zb167) hb)
                have n6_ := Aside0.mk (below_step (zb168) hb)
                clear HO_360001
                clear HO_371001
                clear HO_378001
                clear BK359
                clear BK370
                clear BK377
                clear HB
                have HO_360001 := n0_
                have HO_371001 := n1_
                have HO_378001 := n2_
                have BK359 := n3_
                have BK370 := n4_
                have BK377 := n5_
                have HB := n6_
                clear n0_ n1_ n2_ n3_ n4_ n5_ n6_
                (try clear hb)
                (try clear hb2)
                (try clear hk)
                (try clear hi)
                refine hK.out _ _ ⟨(blk_cell BK370.out 0).trans rfl, (blk_cell BK370.out 1).trans rfl, (blk_cell BK359.out 0).trans rfl, (blk_cell BK359.out 1).trans rfl⟩ (fun hHeld => ?_)
                clear hK K
                refine norm_ (a' := ?_) ?_ ?_
                rotate_left
                ·show Act.put _ (some 115) _ = _
                 simp only [Act.put, List.setIfInBounds_toArray, List.set_cons_zero, List.set_cons_succ, i64_w, i32_w]
                 rfl
                refine pz 15 116 (bz 51 65535) rfl rfl ?_
                refine pz 16 117 (bz 51 131071) rfl rfl ?_
                refine pz 17 118 (bz 51 262143) rfl rfl ?_
                refine pu 18 119 (bz 51 524287) rfl rfl ?_
                refine pu 19 120 (bz 51 1048575) rfl rfl ?_
                refine pu 20 121 (bz 51 2097151) rfl rfl ?_
                refine pu 21 122 (bz 51 4194303) rfl rfl ?_
                refine pu 22 123 (bz 51 8388607) rfl rfl ?_
                refine pu 23 124 (bz 51 16777215) rfl rfl ?_
                refine pu 24 125 (bz 51 33554431) rfl rfl ?_
                refine pu 25 126 (bz 51 67108863) rfl rfl ?_
                refine pu 26 127 (bz 51 134217727) rfl rfl ?_
                refine pu 27 128 (bz 51 268435455) rfl rfl ?_
                refine pu 28 129 (bz 51 536870911) rfl rfl ?_
                refine pu 29 130 (bz 51 1073741823) rfl rfl ?_
                refine pu 30 131 (bz 51 2147483647) rfl rfl ?_
                refine pz 31 132 (bz 51 4294967295) rfl rfl ?_
                refine pz 32 133 (bz 51 8589934591) rfl rfl ?_
                refine pu 33 134 (bz 51 17179869183) rfl rfl ?_
                refine pu 34 135 (bz 51 34359738367) rfl rfl ?_
                refine pu 35 136 (bz 51 68719476735) rfl rfl ?_
                refine pu 36 137 (bz 51 137438953471) rfl rfl ?_
                refine pz 37 138 (bz 51 274877906943) rfl rfl ?_
                refine pz 38 139 (bz 51 549755813887) rfl rfl ?_
                refine pu 39 140 (bz 51 1099511627775) rfl rfl ?_
                refine pu 40 141 (bz 51 2199023255551) rfl rfl ?_
                refine pu 41 142 (bz 51 4398046511103) rfl rfl ?_
                refine pu 42 143 (bz 51 8796093022207) rfl rfl ?_
                refine pu 43 144 (bz 51 17592186044415) rfl rfl ?_
                refine pu 44 145 (bz 51 35184372088831) rfl rfl ?_
                refine pu 45 146 (bz 51 70368744177663) rfl rfl ?_
                refine pu 46 147 (bz 51 140737488355327) rfl rfl ?_
                refine pu 47 148 (bz 51 281474976710655) rfl rfl ?_
                refine pu 48 149 (bz 51 562949953421311) rfl rfl ?_
                refine pu 49 150 (bz 51 1125899906842623) rfl rfl ?_
                refine pz 50 151 (bz 51 2251799813685247) rfl rfl ?_
                refine done_ (done_of HT_.out (by kernel_rfl)) ?_
                try go_wp2
                go_meet
                case rel => exact ⟨_, (true), (zb1), H', ⟨zb178⟩, ⟨zb156⟩, ⟨zb175⟩, ⟨zb176⟩, ⟨zb155⟩, ⟨zb161⟩, ⟨zb167⟩, ⟨zb168⟩⟩
            case rest =>
             clear HC64
             try clear c2
             try clear p2
             try clear c3
             try clear c7
             try clear c28
             try clear c35
             try clear c36
             try clear c73
             try clear c74
             try clear c75
             try clear c76
             obtain ⟨kq, x151_63, rfl, HA, HJ63, HO_360001, HO_371001, HO_378001, BK359, BK370, BK377, HB⟩ := hcut
             cases kq with
             | zero => exact absurd HA.out (by simp [laws_FnMarks.j3])
             | succ kj63 =>
              have H := HA.out
              clear HA
              simp only [laws_FnMarks.j3] at H
              by_cases c106 : x151_63 = true
              ·subst c106
               have H1 : (some false) = some r := by rw [if_pos rfl] at H; exact H
               clear H
               have H := H1
               clear H1
               obtain rfl := Option.some.inj H
               go_wp2
               go_ret
               exact ⟨zb177, zb168⟩
              ·replace c106 := Bool.eq_false_iff.mpr c106
               subst c106
               have H1 : (laws_FnMarks.l0 kj63 l0 (wrap64 (x6_1 + 1)) x371000_19 x371001_19) = some r := by rw [if_neg (show ¬ (false = true) by decide)] at H; exact H
               clear H
               have H := H1
               clear H1
               have H' := Aside0.mk H
               clear H
               have hnb107 := NB370_359.out
               have hnc107 := NB359_370.out
               have hnb108 := NB370_377.out
               have hnc108 := NB377_370.out
               have hcz109_0 : wc.cell? ⟨gb370, 0, none⟩ = some (.int .i64 x371000_19) := (blk_cell BK370.out 0).trans rfl
               have hcz109_1 : wc.cell? ⟨gb370, 1, none⟩ = some (u371001) := (blk_cell BK370.out 1).trans rfl
               have hfz109_0 := blk_frozen BK370.out 0
               have hfz109_1 := blk_frozen BK370.out 1
               have hnb110 := NB359_377.out
               have hnc110 := NB377_359.out
               have hcz111_0 : wc.cell? ⟨gb359, 0, none⟩ = some (.int .i64 x360000_1) := (blk_cell BK359.out 0).trans rfl
               have hcz111_1 : wc.cell? ⟨gb359, 1, none⟩ = some (.slice Ao22 x360001_1.length co22) := (blk_cell BK359.out 1).trans rfl
               have hfz111_0 := blk_frozen BK359.out 0
               have hfz111_1 := blk_frozen BK359.out 1
               obtain ⟨Ao112, co112, eo112⟩ := Kd.R_slice HO_371001.out
               subst eo112
               go_wp2
               go_roundg kj63
               case measure => have := HK1.out; have := HJ19.out; have := HJ54.out; have := HJ63.out; omega
               case rel => exact ⟨(wrap64 (x6_1 + 1)), (x371000_19), (x371001_19), (.slice Ao112 x371001_19.length co112), (zb1), H', ⟨by have := HK1.out; have := HJ19.out; have := HJ54.out; have := HJ63.out; omega⟩, ⟨by (with_reducible repeat (first | apply Kd.R_alloc | apply Kd.R_drewN | apply Kd.R_drew)); exact Kd.R_mono (Kd.R_far (p := ⟨gb359, 1, none⟩) (Kd.R_far (p := ⟨gb359, 0, none⟩) (Kd.R_types HO_371001.out BK359.out (by decide)) (fun _ hk => hk.2) (.int .i64 x371000_19)) (fun _ hk => hk.2) (.slice Ao112 x371001_19.length co112)) (fun _ hk => trivial)⟩, ⟨by (with_reducible repeat (first | refine blk_drewN ?_ _ | refine blk_drew ?_ | refine blk_alloc ?_ _)); refine blk_put (cs := #[.int .i64 x371000_19, .slice Ao22 x360001_1.length co22]) ?_ 1 _ rfl; (with_reducible repeat (first | refine blk_drewN ?_ _ | refine blk_drew ?_ | refine blk_alloc ?_ _)); refine blk_put (cs := #[.int .i64 x360000_1, .slice Ao22 x360001_1.length co22]) ?_ 0 _ rfl; (with_reducible repeat (first | refine blk_drewN ?_ _ | refine blk_drew ?_ | refine blk_alloc ?_ _)); exact BK359.out⟩, ⟨zb168⟩⟩
           ·rw [if_neg c63] at H
            have c63b0 : (x9_19 == 0) = false := beq_eq_false_iff_ne.mpr c63
            have c63b1 : (x9_19 != 0) = true := bne_iff_ne.mpr c63
            have H' := Aside0.mk H
            clear H
            go_wp2
            go_roundg kj54
            case measure => have := HK1.out; have := HJ19.out; have := HJ54.out; omega
            case rel => exact ⟨(wrap64 (x6_1 + 1)), (x360000_1), (x360001_1), (.slice Ao22 x360001_1.length co22), (zb1), H', ⟨by have := HK1.out; have := HJ19.out; have := HJ54.out; omega⟩, ⟨by (with_reducible repeat (first | apply Kd.R_alloc | apply Kd.R_drewN | apply Kd.R_drew)); exact Kd.R_mono HO_360001.out (fun _ hk => trivial)⟩, ⟨zb155⟩, ⟨zb168⟩⟩
     ·rw [if_neg c13] at H
      have c13b0 : decide (x6_1 < (ji12)) = false := decide_eq_false c13
      clear c13
      obtain rfl := Option.some.inj H
      go_wp2
      go_ret
      exact ⟨zb177, zb154⟩
  ·replace c6 := Bool.eq_false_iff.mpr c6
   subst c6
   have H1 : ((impl_MarksOk.f k t353 t354).bind fun t361 => ((spec_MarksOk.f k t353 t354).bind fun t362 => (some (t361 == t362)))) = some r := by rw [if_neg (show ¬ (false = true) by decide)] at H; exact H
   clear H
   have H := H1
   clear H1
   replace H := Option.bind_eq_some_iff.mp H
   obtain ⟨t361, A1130, H⟩ := H
   replace H : ((spec_MarksOk.f k t353 t354).bind fun t362 => (some (t361 == t362))) = some r := H
   have A113 := Aside0.mk A1130
   clear A1130
   replace H := Option.bind_eq_some_iff.mp H
   obtain ⟨t362, A1140, H⟩ := H
   replace H : (some (t361 == t362)) = some r := H
   have A114 := Aside0.mk A1140
   clear A1140
   obtain rfl := Option.some.inj H
   go_enter Try.func7, Try.ntmps7
   try go_wp2_with (first | ((with_reducible refine gate_callee (f := 14) rfl ?_); refine goesL_ (some 13) rfl rfl Try.func14 (by kernel_rfl) rfl #[.slice A0 l0.length c0] rfl (zb10) ?_; (with_reducible refine (laws_big.calls _ _ l0 false _ ?side1 ?side2 A2.out).mono ?_); (case side1 => exact zb150); (case side2 => exact HC0.out); rintro e w' ⟨rfl, ⟨nd, rfl⟩⟩; refine ⟨_, rfl, ?_⟩) | ((with_reducible refine gate_callee (f := 27) rfl ?_); refine goesL_ (some 16) rfl rfl Try.func27 (by kernel_rfl) rfl #[.slice A0 l0.length c0] rfl (zb10) ?_; (with_reducible refine (spec_DrawMarkSet.calls k _ _ l0 t353 t354 t357 t358 _ ?side1 ?side2 A4.out).mono ?_); (case side1 => exact zb150); (case side2 => exact HC0.out); rintro e w115 ⟨v355, rfl, ho0, hb⟩; refine ⟨_, rfl, ?_⟩; have n0_ := Aside0.mk (Kd.R_lower ho0 (below_size (zb3))); have n1_ := Aside0.mk (below_step (zb3) hb); clear HB; have HO356 := n0_; have HB := n1_; clear n0_ n1_; (try clear hb); (try clear hb2); (try clear hk); (try clear hi); (try clear ho0)) | ((with_reducible refine gate_dst (N := 3) rfl ?_); refine box_event ?hg (N := 3) ?hd (cs := #[.int .i64 0, .slice none 0 0]) (t := 53) ?hr ?_; (case hd => rfl); (case hg => rfl); (case hr => first | (go_simp; done) | (go_simp; rfl)); intro gb359 hg w116 hbox hb; have n0_ := Aside0.mk (Kd.R_below (zb151) hb); have n1_ := Aside0.mk (below_step (zb3) hb); have n2_ := Aside0.mk (hbox); have n3_ := Aside0.mk ((by rw [hg]; exact (below_size (zb3)) : w.heap.size ≤ gb359)); have n4_ := Aside0.mk ((by rw [hg]; exact (below_size (zb3)) : w.heap.size ≤ gb359)); clear HO356; clear HB; have HO356 := n0_; have HB := n1_; have BK359 := n2_; have GW359 := n3_; have GE359 := n4_; clear n0_ n1_ n2_ n3_ n4_; clear hb hbox hg; have hcz117_0 : w116.cell? ⟨gb359, 0, none⟩ = some (.int .i64 0) := (blk_cell BK359.out 0).trans rfl; have hcz117_1 : w116.cell? ⟨gb359, 1, none⟩ = some (.slice none 0 0) := (blk_cell BK359.out 1).trans rfl; have hfz117_0 := blk_frozen BK359.out 0; have hfz117_1 := blk_frozen BK359.out 1; obtain ⟨Ao118, co118, eo118⟩ := Kd.R_slice HO356.out; subst eo118) | ((with_reducible refine gate_callee (f := 28) rfl ?_); refine goesL_ (some 21) rfl rfl Try.func28 (by kernel_rfl) rfl #[.agg #[.int .i64 t353, .slice Ao118 t354.length co118]] rfl (zb10) ?_; (with_reducible refine (spec_MarksOk.calls k t353 _ _ t354 false _ ?side1 ?side2 A5.out).mono ?_); (case side1 => refine (Kd.R_reads' (e := 63) (base := w.heap.size) (ok := fun k_ => True) (n := t354.length) (c := co118) ?_).2.2; exact (zb180)); (case side2 => exact (Kd.R_reads' HO356.out).2.1); rintro e w119 ⟨rfl, hb⟩; refine ⟨_, rfl, ?_⟩; have n0_ := Aside0.mk (Kd.R_below (zb180) hb); have n1_ := Aside0.mk (blk_below (g := gb359) (o := .cells #[.int .i64 t353, .slice Ao118 t354.length co118] 53 (0, 0)) (zb153) hb); have n2_ := Aside0.mk (below_step (zb154) hb); clear HO356; clear BK359; clear HB; have HO356 := n0_; have BK359 := n1_; have HB := n2_; clear n0_ n1_ n2_; (try clear hb); (try clear hb2); (try clear hk); (try clear hi)))
   have n0_ := Aside0.mk (Kd.R_drew HO356.out)
   have n1_ := Aside0.mk (blk_drew BK359.out)
   have n2_ := Aside0.mk (below_drew1 HB.out)
   clear HO356
   clear BK359
   clear HB
   have HO356 := n0_
   have BK359 := n1_
   have HB := n2_
   clear n0_ n1_ n2_
   refine start_ (n := 6) (S := fun w' => w'.cell? ⟨gb359, 0, none⟩ = some (.int .i64 t353) ∧ w'.cell? ⟨gb359, 1, none⟩ = some (.slice Ao118 t354.length co118)) (ds := []) #[false, false, false, false, false, false] (by kernel_rfl) rfl rfl ⟨(blk_cell BK359.out 0).trans rfl, (blk_cell BK359.out 1).trans rfl⟩ (fun hHeld => ?_)
   generalize w119.drew = w120 at HO356 BK359 HB hHeld ⊢
   refine take_ (i := 0) (N := some 23) (v := ?_) (a' := ?_) #[true, false, false, false, false, false] rfl rfl (by kernel_rfl) (fun _ _ _ h => h) (Or.inl ⟨by rfl, ?_⟩) hHeld ?_ ?_
   rotate_left
   ·rintro w' ⟨s0, s1⟩
    go_simp
    with_reducible rfl
   rotate_left
   ·simp only [Act.put, List.setIfInBounds_toArray, List.set_cons_zero, List.set_cons_succ, i64_w, i32_w]
    rfl
   refine take_ (i := 2) (N := some 25) (v := ?_) (a' := ?_) #[true, false, true, false, false, false] rfl rfl (by kernel_rfl) (fun _ _ _ h => h) (Or.inl ⟨by rfl, ?_⟩) hHeld ?_ ?_
   rotate_left
   ·rintro w' ⟨s0, s1⟩
    go_simp
    with_reducible rfl
   rotate_left
   ·simp only [Act.put, List.setIfInBounds_toArray, List.set_cons_zero, List.set_cons_succ, i64_w, i32_w]
    rfl
   refine one_ (i := 1) (N := some 24) #[true, true, true, false, false, false] rfl rfl (by kernel_rfl) (by decide) (fun K hK => ?_)
   refine goes_ Try.func29 (by kernel_rfl) rfl #[.agg #[.int .i64 t353, .slice Ao118 t354.length co118]] (by rfl) rfl rfl (zb10) ?_
   with_reducible refine (impl_MarksOk.calls k t353 _ _ t354 t361 _ ?side1 ?side2 A113.out).mono ?_
   (case side1 => exact zb181)
   (case side2 => exact (Kd.R_reads' HO356.out).2.1)
   rintro e w121 ⟨rfl, hb⟩
   refine ⟨_, rfl, ?_⟩
   have n0_ := Aside0.mk (Kd.R_below (zb151) hb)
   have n1_ := Aside0.mk (blk_below (g := gb359) (o := .cells #[.int .i64 t353, .slice Ao118 t354.length co118] 53 (0, 0)) (zb155) hb)
   have n2_ := Aside0.mk (below_step (zb154) hb)
   clear HO356
   clear BK359
   clear HB
   have HO356 := n0_
   have BK359 := n1_
   have HB := n2_
   clear n0_ n1_ n2_
   (try clear hb)
   (try clear hb2)
   (try clear hk)
   (try clear hi)
   refine hK.out _ _ ⟨(blk_cell BK359.out 0).trans rfl, (blk_cell BK359.out 1).trans rfl⟩ (fun hHeld => ?_)
   clear hK K
   refine norm_ (a' := ?_) ?_ ?_
   rotate_left
   ·show Act.put _ (some 24) _ = _
    simp only [Act.put, List.setIfInBounds_toArray, List.set_cons_zero, List.set_cons_succ, i64_w, i32_w]
    rfl
   refine one_ (i := 3) (N := some 26) #[true, true, true, true, false, false] rfl rfl (by kernel_rfl) (by decide) (fun K hK => ?_)
   refine goes_ Try.func28 (by kernel_rfl) rfl #[.agg #[.int .i64 t353, .slice Ao118 t354.length co118]] (by rfl) rfl rfl (zb10) ?_
   with_reducible refine (spec_MarksOk.calls k t353 _ _ t354 t362 _ ?side1 ?side2 A114.out).mono ?_
   (case side1 => exact zb181)
   (case side2 => exact (Kd.R_reads' HO356.out).2.1)
   rintro e w122 ⟨rfl, hb⟩
   refine ⟨_, rfl, ?_⟩
   have n0_ := Aside0.mk (Kd.R_below (zb151) hb)
   have n1_ := Aside0.mk (blk_below (g := gb359) (o := .cells #[.int .i64 t353, .slice Ao118 t354.length co118] 53 (0, 0)) (zb155) hb)
   have n2_ := Aside0.mk (below_step (zb154) hb)
   clear HO356
   clear BK359
   clear HB
   have HO356 := n0_
   have BK359 := n1_
   have HB := n2_
   clear n0_ n1_ n2_
   (try clear hb)
   (try clear hb2)
   (try clear hk)
   (try clear hi)
   refine hK.out _ _ ⟨(blk_cell BK359.out 0).trans rfl, (blk_cell BK359.out 1).trans rfl⟩ (fun hHeld => ?_)
   clear hK K
   refine norm_ (a' := ?_) ?_ ?_
   rotate_left
   ·show Act.put _ (some 26) _ = _
    simp only [Act.put, List.setIfInBounds_toArray, List.set_cons_zero, List.set_cons_succ, i64_w, i32_w]
    rfl
   refine pure_ (i := 4) (N := some 27) (v := ?_) (a' := ?_) #[true, true, true, true, true, false] rfl rfl (by kernel_rfl) (fun _ _ _ h => h) (Or.inl ⟨by rfl, ?_⟩) ?_ ?_
   rotate_left
   ·intro w'
    go_simp
    with_reducible rfl
   rotate_left
   ·simp only [Act.put, List.setIfInBounds_toArray, List.set_cons_zero, List.set_cons_succ, i64_w, i32_w]
    rfl
   refine pure_ (i := 5) (N := some 2) (v := ?_) (a' := ?_) #[true, true, true, true, true, true] rfl rfl (by kernel_rfl) (fun _ _ _ h => h) (Or.inl ⟨by rfl, ?_⟩) ?_ ?_
   rotate_left
   ·intro w'
    go_simp
    with_reducible rfl
   rotate_left
   ·simp only [Act.put, List.setIfInBounds_toArray, List.set_cons_zero, List.set_cons_succ, i64_w, i32_w]
    rfl
   refine done_ (by kernel_rfl) ?_
   try go_wp2
   go_ret
   exact ⟨zb5, zb154⟩

/-- THE ONE PURE STATEMENT of laws_FnMarks: yours. -/
def laws_FnMarks.Pure : Prop := ∀ (l0 : List Int), l0.length ≤ maxLen → l0.length * 1 ≤ 140737488351232 → (∀ x ∈ l0, (Lit.int .u8 x).wf = true) → ∃ k, laws_FnMarks.f k l0 = some true
theorem laws_FnMarks.walk (P : laws_FnMarks.Pure) (a0 : Option Addr) (len0 cap0 : Nat) (z0 : List Int) (w : World) (w0 : (a0 = none ∧ len0 = 0 ∧ cap0 = 0 ∧ z0 = []) ∨ ∃ x, a0 = some x ∧ len0 ≤ cap0 ∧ cap0 ≤ maxLen ∧ z0.length = cap0 ∧ (∀ i, i < z0.length → w.cell? (x.add i) = some (.int .u8 (z0.getD i 0))) ∧ ∀ n ∈ z0, (Lit.int .u8 n).wf = true) (y0 : len0 * 1 ≤ 140737488351232) :
  Calls Try.prog 7 #[.slice a0 len0 cap0] w fun e w' => e = .returned (.bool true) ∧ Below w.heap.size w w' := by
 obtain ⟨l0, rfl, hr0, hm0, hw0, hc0⟩ := ReadsInt.ofRowC w0
 obtain ⟨k, h⟩ := P l0 hm0 y0 hw0
 refine (laws_FnMarks.calls k _ _ l0 true w (Kd.C_of_reads (d := (0 : Int)) (h1 := fun _ => rfl) hr0) hc0 h).mono ?_
 rintro e w' ⟨rfl, hd⟩
 exact ⟨rfl, hd⟩

end Go.Proofs.Ytahnodgbfonlhaa.PFnMarks
