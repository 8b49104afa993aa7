/- Contracts of the functions that the law FnMarks reaches, part 7: each says that the call returns what the Lean function of the same name computes. Made by a program of this session. -/
import Derived.Test.YtahnodgbfonlhaaQFnMarksx0
import Derived.Test.YtahnodgbfonlhaaQFnMarksx1
import Derived.Test.YtahnodgbfonlhaaQFnMarksx6
namespace Go.Proofs.Ytahnodgbfonlhaa.PFnMarks
open Go.RowKit Go.Proofs.YtahnodgbfonlhaaW.PrintWords Go.Proofs.YtahnodgbfonlhaaW.PrintLast Go.Proofs.YtahnodgbfonlhaaW.PrintMore
attribute [local go_sem] max2_int min2_int max_two min_two max_three min_three max_four min_four   -- for this text's walks alone
set_option linter.unusedVariables false
set_option linter.unusedSimpArgs false

/-! ### spec_DrawMarkSet: function 27 -/
def spec_DrawMarkSet.f (k : Nat) (l0 : List Int) : Option (Int × (List (S63)) × Int × Int) := (spec_l01Open.f l0).bind fun bt254 => ((spec_l01Cur_badMarks.f k bt254.1 bt254.2.1 bt254.2.2).bind fun bt258 => ((spec_l01Cur_pick.f bt254.1 bt258.2.2.1 bt258.2.2.2 4).bind fun bt265 => ((spec_l01Cur_pick.f bt254.1 bt265.2.1 bt265.2.2 4).bind fun bt268 => ((spec_l01Cur_raw.f bt254.1 bt268.2.1 bt268.2.2).bind fun bt271 => ((some (([bt265.1, bt268.1, bt271.1] : List Int) : List Int)).bind fun y274 => ((spec_l01Cur_pick.f bt254.1 bt271.2.1 bt271.2.2 3).bind fun bt277 => (if 0 ≤ bt277.1 then (if bt277.1 < (y274.length : Int) then ((spec_l01Cur_pick.f bt254.1 bt277.2.1 bt277.2.2 50).bind fun bt281 => ((spec_l01Cur_pick.f bt254.1 bt281.2.1 bt281.2.2 50).bind fun bt284 => ((spec_l01Cur_raw.f bt254.1 bt284.2.1 bt284.2.2).bind fun bt287 => ((some (([bt281.1, bt284.1, bt287.1, 1000, 1001] : List Int) : List Int)).bind fun y290 => ((spec_l01Cur_pick.f bt254.1 bt287.2.1 bt287.2.2 5).bind fun bt293 => (if 0 ≤ bt293.1 then (if bt293.1 < (y290.length : Int) then (some (bt258.1, bt258.2.1, rd y274 bt277.1, rd y290 bt293.1)) else (none)) else (none))))))) else (none)) else (none))))))))
theorem spec_DrawMarkSet.mono : ∀ a0 k, LeO (spec_DrawMarkSet.f k a0) (spec_DrawMarkSet.f (k + 1) a0) := by
 intro a0 k
 unfold spec_DrawMarkSet.f
 repeat' first
   | (with_reducible exact spec_l01Cur_badMarks.mono _ _ _ _)
   | (with_reducible exact LeO.refl _)
   | (with_reducible exact LeO.none _)
   | (with_reducible refine LeO.ite ?_ ?_)
   | (with_reducible refine LeO.bind ?_ (fun _ => ?_))
   | exact spec_l01Cur_badMarks.mono _ _ _ _
   | exact LeO.none _
   | refine LeO.ite ?_ ?_
   | refine LeO.bind ?_ (fun _ => ?_)
def spec_DrawMarkSet.T3 : Bool × List (List Nat × List Nat) := (true, [([], []), ([], []), ([1], [1]), ([], []), ([3, 2], [3]), ([], []), ([5, 4], [5]), ([2, 4, 6], [2, 4, 6]), ([], []), ([8, 6], [8]), ([7, 9], [7, 9]), ([10], [10]), ([], []), ([12, 9], [12]), ([], []), ([14, 13], [14]), ([], []), ([16, 15], [16]), ([13, 15, 17], [13, 15, 17]), ([], []), ([19, 17], [19]), ([18, 20], [18, 20]), ([21], [21]), ([0, 20, 0], [0]), ([11, 23, 0, 1, 2, 3, 4, 5, 6, 7, 8, 9, 10, 11, 23], [11]), ([22, 24, 0, 1, 2, 3, 4, 5, 6, 7, 8, 9, 10, 11, 12, 13, 14, 15, 16, 17, 18, 19, 20, 21, 22, 23, 24], [22])])
def spec_DrawMarkSet.B3 : List Nat := [0, 0, 2, 0, 14, 0, 62, 126, 0, 382, 1022, 2046, 0, 4990, 0, 29566, 0, 127870, 258942, 0, 783230, 2093950, 4191102, 1831807, 10223615, 33554431]
theorem spec_DrawMarkSet.tab3 : rtab .any (opsOf Try.f27 3) = spec_DrawMarkSet.T3 := by kernel_rfl
theorem spec_DrawMarkSet.bits3 : waitsOk spec_DrawMarkSet.T3.2 spec_DrawMarkSet.B3 = true := by kernel_rfl
set_option maxHeartbeats 8000000 in
set_option maxRecDepth 100000 in
theorem spec_DrawMarkSet.calls (k : Nat) (A0 : Option Addr) (c0 : Nat) (l0 : List Int) (r1 : Int) (r2 : List (S63)) (r3 : Int) (r4 : Int) (w : World) (hr0 : Kd.C (Kd.int .u8) w A0 l0.length l0) (hc0 : l0.length ≤ c0) (h : spec_DrawMarkSet.f k l0 = some (r1, r2, r3, r4)) :
  Calls Try.prog 27 #[.slice A0 l0.length c0] w fun e w' => ∃ v1_ : Value, e = .returned (.tuple #[.agg #[.int .i64 r1, v1_], .int .i64 r3, .int .i64 r4]) ∧ Kd.R k63 63 w' w.heap.size (fun _ => True) v1_ r2 ∧ Below w.heap.size w w' := by
 have hu53 := Try.underlying53
 have HR0 := Aside0.mk hr0
 have HC0 := Aside0.mk hc0
 clear hr0 hc0
 have HB := Aside0.mk (Below.refl w.heap.size w)
 have H : ((spec_l01Open.f l0).bind fun bt254 => ((spec_l01Cur_badMarks.f k bt254.1 bt254.2.1 bt254.2.2).bind fun bt258 => ((spec_l01Cur_pick.f bt254.1 bt258.2.2.1 bt258.2.2.2 4).bind fun bt265 => ((spec_l01Cur_pick.f bt254.1 bt265.2.1 bt265.2.2 4).bind fun bt268 => ((spec_l01Cur_raw.f bt254.1 bt268.2.1 bt268.2.2).bind fun bt271 => ((some (([bt265.1, bt268.1, bt271.1] : List Int) : List Int)).bind fun y274 => ((spec_l01Cur_pick.f bt254.1 bt271.2.1 bt271.2.2 3).bind fun bt277 => (if 0 ≤ bt277.1 then (if bt277.1 < (y274.length : Int) then ((spec_l01Cur_pick.f bt254.1 bt277.2.1 bt277.2.2 50).bind fun bt281 => ((spec_l01Cur_pick.f bt254.1 bt281.2.1 bt281.2.2 50).bind fun bt284 => ((spec_l01Cur_raw.f bt254.1 bt284.2.1 bt284.2.2).bind fun bt287 => ((some (([bt281.1, bt284.1, bt287.1, 1000, 1001] : List Int) : List Int)).bind fun y290 => ((spec_l01Cur_pick.f bt254.1 bt287.2.1 bt287.2.2 5).bind fun bt293 => (if 0 ≤ bt293.1 then (if bt293.1 < (y290.length : Int) then (some (bt258.1, bt258.2.1, rd y274 bt277.1, rd y290 bt293.1)) else (none)) else (none))))))) else (none)) else (none))))))))) = some (r1, r2, r3, r4) := h
 clear h
 replace H := Option.bind_eq_some_iff.mp H
 obtain ⟨⟨t254, t255, t256⟩, A20, H⟩ := H
 replace H : ((spec_l01Cur_badMarks.f k t254 t255 t256).bind fun bt258 => ((spec_l01Cur_pick.f t254 bt258.2.2.1 bt258.2.2.2 4).bind fun bt265 => ((spec_l01Cur_pick.f t254 bt265.2.1 bt265.2.2 4).bind fun bt268 => ((spec_l01Cur_raw.f t254 bt268.2.1 bt268.2.2).bind fun bt271 => ((some (([bt265.1, bt268.1, bt271.1] : List Int) : List Int)).bind fun y274 => ((spec_l01Cur_pick.f t254 bt271.2.1 bt271.2.2 3).bind fun bt277 => (if 0 ≤ bt277.1 then (if bt277.1 < (y274.length : Int) then ((spec_l01Cur_pick.f t254 bt277.2.1 bt277.2.2 50).bind fun bt281 => ((spec_l01Cur_pick.f t254 bt281.2.1 bt281.2.2 50).bind fun bt284 => ((spec_l01Cur_raw.f t254 bt284.2.1 bt284.2.2).bind fun bt287 => ((some (([bt281.1, bt284.1, bt287.1, 1000, 1001] : List Int) : List Int)).bind fun y290 => ((spec_l01Cur_pick.f t254 bt287.2.1 bt287.2.2 5).bind fun bt293 => (if 0 ≤ bt293.1 then (if bt293.1 < (y290.length : Int) then (some (bt258.1, bt258.2.1, rd y274 bt277.1, rd y290 bt293.1)) else (none)) else (none))))))) else (none)) else (none)))))))) = some (r1, r2, r3, r4) := H
 have A2 := Aside0.mk A20
 clear A20
 replace H := Option.bind_eq_some_iff.mp H
 obtain ⟨⟨t258, t259, t262, t263⟩, A30, H⟩ := H
 replace H : ((spec_l01Cur_pick.f t254 t262 t263 4).bind fun bt265 => ((spec_l01Cur_pick.f t254 bt265.2.1 bt265.2.2 4).bind fun bt268 => ((spec_l01Cur_raw.f t254 bt268.2.1 bt268.2.2).bind fun bt271 => ((some (([bt265.1, bt268.1, bt271.1] : List Int) : List Int)).bind fun y274 => ((spec_l01Cur_pick.f t254 bt271.2.1 bt271.2.2 3).bind fun bt277 => (if 0 ≤ bt277.1 then (if bt277.1 < (y274.length : Int) then ((spec_l01Cur_pick.f t254 bt277.2.1 bt277.2.2 50).bind fun bt281 => ((spec_l01Cur_pick.f t254 bt281.2.1 bt281.2.2 50).bind fun bt284 => ((spec_l01Cur_raw.f t254 bt284.2.1 bt284.2.2).bind fun bt287 => ((some (([bt281.1, bt284.1, bt287.1, 1000, 1001] : List Int) : List Int)).bind fun y290 => ((spec_l01Cur_pick.f t254 bt287.2.1 bt287.2.2 5).bind fun bt293 => (if 0 ≤ bt293.1 then (if bt293.1 < (y290.length : Int) then (some (t258, t259, rd y274 bt277.1, rd y290 bt293.1)) else (none)) else (none))))))) else (none)) else (none))))))) = some (r1, r2, r3, r4) := H
 have A3 := Aside0.mk A30
 clear A30
 replace H := Option.bind_eq_some_iff.mp H
 obtain ⟨⟨t265, t266, t267⟩, A40, H⟩ := H
 replace H : ((spec_l01Cur_pick.f t254 t266 t267 4).bind fun bt268 => ((spec_l01Cur_raw.f t254 bt268.2.1 bt268.2.2).bind fun bt271 => ((some (([t265, bt268.1, bt271.1] : List Int) : List Int)).bind fun y274 => ((spec_l01Cur_pick.f t254 bt271.2.1 bt271.2.2 3).bind fun bt277 => (if 0 ≤ bt277.1 then (if bt277.1 < (y274.length : Int) then ((spec_l01Cur_pick.f t254 bt277.2.1 bt277.2.2 50).bind fun bt281 => ((spec_l01Cur_pick.f t254 bt281.2.1 bt281.2.2 50).bind fun bt284 => ((spec_l01Cur_raw.f t254 bt284.2.1 bt284.2.2).bind fun bt287 => ((some (([bt281.1, bt284.1, bt287.1, 1000, 1001] : List Int) : List Int)).bind fun y290 => ((spec_l01Cur_pick.f t254 bt287.2.1 bt287.2.2 5).bind fun bt293 => (if 0 ≤ bt293.1 then (if bt293.1 < (y290.length : Int) then (some (t258, t259, rd y274 bt277.1, rd y290 bt293.1)) else (none)) else (none))))))) else (none)) else (none)))))) = some (r1, r2, r3, r4) := H
 have A4 := Aside0.mk A40
 clear A40
 replace H := Option.bind_eq_some_iff.mp H
 obtain ⟨⟨t268, t269, t270⟩, A50, H⟩ := H
 replace H : ((spec_l01Cur_raw.f t254 t269 t270).bind fun bt271 => ((some (([t265, t268, bt271.1] : List Int) : List Int)).bind fun y274 => ((spec_l01Cur_pick.f t254 bt271.2.1 bt271.2.2 3).bind fun bt277 => (if 0 ≤ bt277.1 then (if bt277.1 < (y274.length : Int) then ((spec_l01Cur_pick.f t254 bt277.2.1 bt277.2.2 50).bind fun bt281 => ((spec_l01Cur_pick.f t254 bt281.2.1 bt281.2.2 50).bind fun bt284 => ((spec_l01Cur_raw.f t254 bt284.2.1 bt284.2.2).bind fun bt287 => ((some (([bt281.1, bt284.1, bt287.1, 1000, 1001] : List Int) : List Int)).bind fun y290 => ((spec_l01Cur_pick.f t254 bt287.2.1 bt287.2.2 5).bind fun bt293 => (if 0 ≤ bt293.1 then (if bt293.1 < (y290.length : Int) then (some (t258, t259, rd y274 bt277.1, rd y290 bt293.1)) else (none)) else (none))))))) else (none)) else (none))))) = some (r1, r2, r3, r4) := H
 have A5 := Aside0.mk A50
 clear A50
 replace H := Option.bind_eq_some_iff.mp H
 obtain ⟨⟨t271, t272, t273⟩, A60, H⟩ := H
 replace H : ((some (([t265, t268, t271] : List Int) : List Int)).bind fun y274 => ((spec_l01Cur_pick.f t254 t272 t273 3).bind fun bt277 => (if 0 ≤ bt277.1 then (if bt277.1 < (y274.length : Int) then ((spec_l01Cur_pick.f t254 bt277.2.1 bt277.2.2 50).bind fun bt281 => ((spec_l01Cur_pick.f t254 bt281.2.1 bt281.2.2 50).bind fun bt284 => ((spec_l01Cur_raw.f t254 bt284.2.1 bt284.2.2).bind fun bt287 => ((some (([bt281.1, bt284.1, bt287.1, 1000, 1001] : List Int) : List Int)).bind fun y290 => ((spec_l01Cur_pick.f t254 bt287.2.1 bt287.2.2 5).bind fun bt293 => (if 0 ≤ bt293.1 then (if bt293.1 < (y290.length : Int) then (some (t258, t259, rd y274 bt277.1, rd y290 bt293.1)) else (none)) else (none))))))) else (none)) else (none)))) = some (r1, r2, r3, r4) := H
 have A6 := Aside0.mk A60
 clear A60
 obtain ⟨y274, hy274⟩ : ∃ y_ : List Int, y_ = (([t265, t268, t271] : List Int)) := ⟨_, rfl⟩
 replace H : ((spec_l01Cur_pick.f t254 t272 t273 3).bind fun bt277 => (if 0 ≤ bt277.1 then (if bt277.1 < (y274.length : Int) then ((spec_l01Cur_pick.f t254 bt277.2.1 bt277.2.2 50).bind fun bt281 => ((spec_l01Cur_pick.f t254 bt281.2.1 bt281.2.2 50).bind fun bt284 => ((spec_l01Cur_raw.f t254 bt284.2.1 bt284.2.2).bind fun bt287 => ((some (([bt281.1, bt284.1, bt287.1, 1000, 1001] : List Int) : List Int)).bind fun y290 => ((spec_l01Cur_pick.f t254 bt287.2.1 bt287.2.2 5).bind fun bt293 => (if 0 ≤ bt293.1 then (if bt293.1 < (y290.length : Int) then (some (t258, t259, rd y274 bt277.1, rd y290 bt293.1)) else (none)) else (none))))))) else (none)) else (none))) = some (r1, r2, r3, r4) := by first | (rw [hy274]; with_reducible exact H) | (have H2_ := (Option.bind_some _ _).symm.trans H; rw [hy274]; with_reducible exact H2_) | (have H2_ := (Option.bind_some _ _).symm.trans H; with_reducible exact H2_) | with_reducible exact H | (rw [hy274]; exact H) | exact H
 have Ny274 := Aside0.mk hy274
 clear hy274
 replace H := Option.bind_eq_some_iff.mp H
 obtain ⟨⟨t277, t278, t279⟩, A70, H⟩ := H
 replace H : (if 0 ≤ t277 then (if t277 < (y274.length : Int) then ((spec_l01Cur_pick.f t254 t278 t279 50).bind fun bt281 => ((spec_l01Cur_pick.f t254 bt281.2.1 bt281.2.2 50).bind fun bt284 => ((spec_l01Cur_raw.f t254 bt284.2.1 bt284.2.2).bind fun bt287 => ((some (([bt281.1, bt284.1, bt287.1, 1000, 1001] : List Int) : List Int)).bind fun y290 => ((spec_l01Cur_pick.f t254 bt287.2.1 bt287.2.2 5).bind fun bt293 => (if 0 ≤ bt293.1 then (if bt293.1 < (y290.length : Int) then (some (t258, t259, rd y274 t277, rd y290 bt293.1)) else (none)) else (none))))))) else (none)) else (none)) = some (r1, r2, r3, r4) := H
 have A7 := Aside0.mk A70
 clear A70
 by_cases c8 : 0 ≤ t277
 ·rw [if_pos c8] at H
  have c8b0 : decide (0 ≤ t277) = true := decide_eq_true c8
  clear c8
  by_cases c9 : t277 < (y274.length : Int)
  ·rw [if_pos c9] at H
   have c9b0 : decide (t277 < (y274.length : Int)) = true := decide_eq_true c9
   clear c9
   replace H := Option.bind_eq_some_iff.mp H
   obtain ⟨⟨t281, t282, t283⟩, A100, H⟩ := H
   replace H : ((spec_l01Cur_pick.f t254 t282 t283 50).bind fun bt284 => ((spec_l01Cur_raw.f t254 bt284.2.1 bt284.2.2).bind fun bt287 => ((some (([t281, bt284.1, bt287.1, 1000, 1001] : List Int) : List Int)).bind fun y290 => ((spec_l01Cur_pick.f t254 bt287.2.1 bt287.2.2 5).bind fun bt293 => (if 0 ≤ bt293.1 then (if bt293.1 < (y290.length : Int) then (some (t258, t259, rd y274 t277, rd y290 bt293.1)) else (none)) else (none)))))) = some (r1, r2, r3, r4) := H
   have A10 := Aside0.mk A100
   clear A100
   replace H := Option.bind_eq_some_iff.mp H
   obtain ⟨⟨t284, t285, t286⟩, A110, H⟩ := H
   replace H : ((spec_l01Cur_raw.f t254 t285 t286).bind fun bt287 => ((some (([t281, t284, bt287.1, 1000, 1001] : List Int) : List Int)).bind fun y290 => ((spec_l01Cur_pick.f t254 bt287.2.1 bt287.2.2 5).bind fun bt293 => (if 0 ≤ bt293.1 then (if bt293.1 < (y290.length : Int) then (some (t258, t259, rd y274 t277, rd y290 bt293.1)) else (none)) else (none))))) = some (r1, r2, r3, r4) := H
   have A11 := Aside0.mk A110
   clear A110
   replace H := Option.bind_eq_some_iff.mp H
   obtain ⟨⟨t287, t288, t289⟩, A120, H⟩ := H
   replace H : ((some (([t281, t284, t287, 1000, 1001] : List Int) : List Int)).bind fun y290 => ((spec_l01Cur_pick.f t254 t288 t289 5).bind fun bt293 => (if 0 ≤ bt293.1 then (if bt293.1 < (y290.length : Int) then (some (t258, t259, rd y274 t277, rd y290 bt293.1)) else (none)) else (none)))) = some (r1, r2, r3, r4) := H
   have A12 := Aside0.mk A120
   clear A120
   obtain ⟨y290, hy290⟩ : ∃ y_ : List Int, y_ = (([t281, t284, t287, 1000, 1001] : List Int)) := ⟨_, rfl⟩
   replace H : ((spec_l01Cur_pick.f t254 t288 t289 5).bind fun bt293 => (if 0 ≤ bt293.1 then (if bt293.1 < (y290.length : Int) then (some (t258, t259, rd y274 t277, rd y290 bt293.1)) else (none)) else (none))) = some (r1, r2, r3, r4) := by first | (rw [hy290]; with_reducible exact H) | (have H2_ := (Option.bind_some _ _).symm.trans H; rw [hy290]; with_reducible exact H2_) | (have H2_ := (Option.bind_some _ _).symm.trans H; with_reducible exact H2_) | with_reducible exact H | (rw [hy290]; exact H) | exact H
   have Ny290 := Aside0.mk hy290
   clear hy290
   replace H := Option.bind_eq_some_iff.mp H
   obtain ⟨⟨t293, t294, t295⟩, A130, H⟩ := H
   replace H : (if 0 ≤ t293 then (if t293 < (y290.length : Int) then (some (t258, t259, rd y274 t277, rd y290 t293)) else (none)) else (none)) = some (r1, r2, r3, r4) := H
   have A13 := Aside0.mk A130
   clear A130
   by_cases c14 : 0 ≤ t293
   ·rw [if_pos c14] at H
    have c14b0 : decide (0 ≤ t293) = true := decide_eq_true c14
    clear c14
    by_cases c15 : t293 < (y290.length : Int)
    ·rw [if_pos c15] at H
     have c15b0 : decide (t293 < (y290.length : Int)) = true := decide_eq_true c15
     clear c15
     simp only [Option.some.injEq, Prod.mk.injEq] at H
     obtain ⟨rfl, rfl, rfl, rfl⟩ := H
     go_enter Try.func27, Try.ntmps27
     try go_wp2_with (first | ((with_reducible refine gate_dst (N := 2) rfl ?_); refine box_event ?hg (N := 2) ?hd (cs := #[.int .i64 0, .slice none 0 0]) (t := 53) ?hr ?_; (case hd => rfl); (case hg => rfl); (case hr => first | (go_simp; done) | (go_simp; rfl)); intro gb253 hg w16 hbox hb; have n0_ := Aside0.mk (below_step (zb3) hb); have n1_ := Aside0.mk (hbox); have n2_ := Aside0.mk ((by rw [hg]; exact (below_size (zb3)) : w.heap.size ≤ gb253)); have n3_ := Aside0.mk ((by rw [hg]; exact (below_size (zb3)) : w.heap.size ≤ gb253)); clear HB; have HB := n0_; have BK253 := n1_; have GW253 := n2_; have GE253 := n3_; clear n0_ n1_ n2_ n3_; clear hb hbox hg) | ((with_reducible refine gate_callee (f := 46) rfl ?_); refine goesL_ (some 8) rfl rfl Try.func46 (by kernel_rfl) rfl #[.slice A0 l0.length c0] rfl (zb10) ?_; (with_reducible refine (spec_l01Open.calls _ _ l0 t254 t255 t256 w _ ?side1 ?side2 ?side3 A2.out).mono ?_); (case side1 => repeat (first | (with_reducible first | exact HB.out | apply below_alloc | apply pw_below_drewN | apply below_drew1 | refine below_set ?_ GE253.out) | exact HB.out)); (case side2 => exact HR0.out); (case side3 => exact HC0.out); rintro e w17 ⟨g257, rfl, hi, hb, hb2⟩; refine ⟨_, rfl, ?_⟩; have n0_ := Aside0.mk (blk_below (g := gb253) (o := .cells #[.int .i64 0, .slice none 0 0] 53 (0, 0)) (zb93) hb2); have n1_ := Aside0.mk (hb); have n2_ := Aside0.mk (hi); have n3_ := Aside0.mk (IsS102.ne_blk hi (blk_below (g := gb253) (o := .cells #[.int .i64 0, .slice none 0 0] 53 (0, 0)) (zb93) hb2) (by decide)); have n4_ := Aside0.mk (Ne.symm (IsS102.ne_blk hi (blk_below (g := gb253) (o := .cells #[.int .i64 0, .slice none 0 0] 53 (0, 0)) (zb93) hb2) (by decide))); clear BK253; clear HB; have BK253 := n0_; have HB := n1_; have HI257 := n2_; have NB257_253 := n3_; have NB253_257 := n4_; clear n0_ n1_ n2_ n3_ n4_; (try clear hb); (try clear hb2); (try clear hk); (try clear hi)) | ((with_reducible refine gate_callee (f := 66) rfl ?_); refine goesL_ (some 10) rfl rfl Try.func66 (by kernel_rfl) rfl #[.pointer (some ⟨g257, 0, none⟩)] rfl (zb10) ?_; (with_reducible refine (spec_l01Cur_badMarks.calls k g257 t254 t255 t256 t258 t259 t262 t263 w _ ?side1 ?side2 A3.out).mono ?_); (case side1 => repeat (first | (with_reducible first | exact HI257.out | apply IsS102.alloc | apply IsS102.drewN | apply IsS102.drew | apply IsS102.set_1 | apply IsS102.set_2 | refine IsS102.far ?_ NB257_253.out _) | exact HI257.out)); (case side2 => repeat (first | (with_reducible first | exact HB.out | apply below_alloc | apply pw_below_drewN | apply below_drew1 | refine below_set ?_ (IsS102.ge HI257.out) | refine below_set ?_ GE253.out) | exact HB.out)); rintro e w18 ⟨v260, rfl, ho0, hi, hb, hk⟩; refine ⟨_, rfl, ?_⟩; have n0_ := Aside0.mk (KeepBut.blk hk (g' := gb253) (o := .cells #[.int .i64 0, .slice none 0 0] 53 (0, 0)) (zb93) NB253_257.out (by simp)); have n1_ := Aside0.mk (Kd.R_lower ho0 (below_size (zb94))); have n2_ := Aside0.mk (hb); have n3_ := Aside0.mk (hi); clear BK253; clear HB; clear HI257; have BK253 := n0_; have HO261 := n1_; have HB := n2_; have HI257 := n3_; clear n0_ n1_ n2_ n3_; (try clear hb); (try clear hb2); (try clear hk); (try clear hi); (try clear ho0)) | ((with_reducible refine gate_dst (N := 6) rfl ?_); refine box_event ?hg (N := 6) ?hd (cs := #[.int .i64 0, .slice none 0 0]) (t := 53) ?hr ?_; (case hd => rfl); (case hg => rfl); (case hr => first | (go_simp; done) | (go_simp; rfl)); intro gb264 hg w19 hbox hb; have n0_ := Aside0.mk (Kd.R_below (zb95) hb); have n1_ := Aside0.mk (blk_below (g := gb253) (o := .cells #[.int .i64 0, .slice none 0 0] 53 (0, 0)) (zb93) hb); have n2_ := Aside0.mk (IsS102.below (zb96) hb); have n3_ := Aside0.mk (below_step (zb94) hb); have n4_ := Aside0.mk (hbox); have n5_ := Aside0.mk ((by rw [hg]; exact (below_size (zb94)) : w.heap.size ≤ gb264)); have n6_ := Aside0.mk ((by rw [hg]; exact (below_size (zb94)) : w.heap.size ≤ gb264)); have n7_ := Aside0.mk ((by rw [hg]; exact Nat.ne_of_lt (blk_lt (g := gb253) (o := .cells #[.int .i64 0, .slice none 0 0] 53 (0, 0)) (zb93)) : gb253 ≠ gb264)); have n8_ := Aside0.mk ((by rw [hg]; exact Nat.ne_of_gt (blk_lt (g := gb253) (o := .cells #[.int .i64 0, .slice none 0 0] 53 (0, 0)) (zb93)) : gb264 ≠ gb253)); have n9_ := Aside0.mk ((by rw [hg]; exact Nat.ne_of_lt (IsS102.lt (show IsS102 w _ g257 t254 t262 t263 from zb96)) : g257 ≠ gb264)); have n10_ := Aside0.mk ((by rw [hg]; exact Nat.ne_of_gt (IsS102.lt (show IsS102 w _ g257 t254 t262 t263 from zb96)) : gb264 ≠ g257)); clear HO261; clear BK253; clear HI257; clear HB; have HO261 := n0_; have BK253 := n1_; have HI257 := n2_; have HB := n3_; have BK264 := n4_; have GW264 := n5_; have GE264 := n6_; have NB253_264 := n7_; have NB264_253 := n8_; have NB257_264 := n9_; have NB264_257 := n10_; clear n0_ n1_ n2_ n3_ n4_ n5_ n6_ n7_ n8_ n9_ n10_; clear hb hbox hg; have hnb20 := NB264_253.out; have hnc20 := NB253_264.out; have hnb21 := NB264_257.out; have hnc21 := NB257_264.out; have hcz22_0 : w19.cell? ⟨gb264, 0, none⟩ = some (.int .i64 0) := (blk_cell BK264.out 0).trans rfl; have hcz22_1 : w19.cell? ⟨gb264, 1, none⟩ = some (.slice none 0 0) := (blk_cell BK264.out 1).trans rfl; have hfz22_0 := blk_frozen BK264.out 0; have hfz22_1 := blk_frozen BK264.out 1; obtain ⟨Ao23, co23, eo23⟩ := Kd.R_slice HO261.out; subst eo23))
     have pi280 : (0 ≤ (t277 : Int)) = True := eq_true (of_decide_eq_true (zb9))
     have qi280 : (t277 < (y274.length : Int)) = True := eq_true (of_decide_eq_true (zb9))
     have pi296 : (0 ≤ (t293 : Int)) = True := eq_true (of_decide_eq_true (zb9))
     have qi296 : (t293 < (y290.length : Int)) = True := eq_true (of_decide_eq_true (zb9))
     have n0_ : Aside0 (Kd.R k63 63 ((w19.setCell ⟨gb264, 0, none⟩ (.int .i64 t258)).setCell ⟨gb264, 1, none⟩ (.slice Ao23 t259.length co23)) w.heap.size (fun _ => True) (.slice Ao23 t259.length co23) t259) := ⟨by (with_reducible repeat (first | apply Kd.R_alloc | apply Kd.R_drewN | apply Kd.R_drew)); exact Kd.R_mono (Kd.R_far (p := ⟨gb264, 1, none⟩) (Kd.R_far (p := ⟨gb264, 0, none⟩) (Kd.R_types HO261.out BK264.out (by decide)) (fun _ hk => hk.2) (.int .i64 t258)) (fun _ hk => hk.2) (.slice Ao23 t259.length co23)) (fun _ hk => trivial)⟩
     have n1_ : Aside0 (((w19.setCell ⟨gb264, 0, none⟩ (.int .i64 t258)).setCell ⟨gb264, 1, none⟩ (.slice Ao23 t259.length co23)).heap[gb253]? = some (.cells #[.int .i64 0, .slice none 0 0] 53 (0, 0))) := ⟨by (with_reducible repeat (first | refine blk_drewN ?_ _ | refine blk_drew ?_ | refine blk_alloc ?_ _)); refine blk_far ?_ NB253_264.out _; (with_reducible repeat (first | refine blk_drewN ?_ _ | refine blk_drew ?_ | refine blk_alloc ?_ _)); refine blk_far ?_ NB253_264.out _; (with_reducible repeat (first | refine blk_drewN ?_ _ | refine blk_drew ?_ | refine blk_alloc ?_ _)); exact BK253.out⟩
     have n2_ : Aside0 (((w19.setCell ⟨gb264, 0, none⟩ (.int .i64 t258)).setCell ⟨gb264, 1, none⟩ (.slice Ao23 t259.length co23)).heap[gb264]? = some (.cells #[.int .i64 t258, .slice Ao23 t259.length co23] 53 (0, 0))) := ⟨by (with_reducible repeat (first | refine blk_drewN ?_ _ | refine blk_drew ?_ | refine blk_alloc ?_ _)); refine blk_put (cs := #[.int .i64 t258, .slice none 0 0]) ?_ 1 _ rfl; (with_reducible repeat (first | refine blk_drewN ?_ _ | refine blk_drew ?_ | refine blk_alloc ?_ _)); refine blk_put (cs := #[.int .i64 0, .slice none 0 0]) ?_ 0 _ rfl; (with_reducible repeat (first | refine blk_drewN ?_ _ | refine blk_drew ?_ | refine blk_alloc ?_ _)); exact BK264.out⟩
     have n3_ : Aside0 (IsS102 w ((w19.setCell ⟨gb264, 0, none⟩ (.int .i64 t258)).setCell ⟨gb264, 1, none⟩ (.slice Ao23 t259.length co23)) g257 t254 t262 t263) := ⟨zb97⟩
     have n4_ : Aside0 (Below w.heap.size w ((w19.setCell ⟨gb264, 0, none⟩ (.int .i64 t258)).setCell ⟨gb264, 1, none⟩ (.slice Ao23 t259.length co23))) := ⟨zb98⟩
     (try clear HO261)
     (try clear BK253)
     (try clear BK264)
     (try clear HI257)
     (try clear HB)
     generalize ((w19.setCell ⟨gb264, 0, none⟩ (.int .i64 t258)).setCell ⟨gb264, 1, none⟩ (.slice Ao23 t259.length co23)) = w24 at n0_ n1_ n2_ n3_ n4_ ⊢
     have HO261 := n0_
     have BK253 := n1_
     have BK264 := n2_
     have HI257 := n3_
     have HB := n4_
     clear n0_ n1_ n2_ n3_ n4_
     have n0_ := Aside0.mk (Kd.R_drew HO261.out)
     have n1_ := Aside0.mk (blk_drew BK253.out)
     have n2_ := Aside0.mk (blk_drew BK264.out)
     have n3_ := Aside0.mk (IsS102.drew HI257.out)
     have n4_ := Aside0.mk (below_drew1 HB.out)
     clear HO261
     clear BK253
     clear BK264
     clear HI257
     clear HB
     have HO261 := n0_
     have BK253 := n1_
     have BK264 := n2_
     have HI257 := n3_
     have HB := n4_
     clear n0_ n1_ n2_ n3_ n4_
     refine start_ (n := 26) (S := fun w' => True) (ds := []) #[false, false, false, false, false, false, false, false, false, false, false, false, false, false, false, false, false, false, false, false, false, false, false, false, false, false] (by kernel_rfl) rfl rfl trivial (fun hHeld => ?_); refine with_tabW spec_DrawMarkSet.tab3 spec_DrawMarkSet.bits3 (fun HT_ HW_ => ?_)
     generalize w24.drew = w25 at HO261 BK253 BK264 HI257 HB hHeld ⊢
     refine pz 1 12 (bz 26 2) rfl rfl ?_
     refine pz 3 14 (bz 26 10) rfl rfl ?_
     refine pz 5 16 (bz 26 42) rfl rfl ?_
     refine pz 8 19 (bz 26 298) rfl rfl ?_
     refine pz 12 23 (bz 26 4394) rfl rfl ?_
     refine pz 14 25 (bz 26 20778) rfl rfl ?_
     refine pz 16 27 (bz 26 86314) rfl rfl ?_
     refine pz 19 30 (bz 26 610602) rfl rfl ?_
     refine inv_at [0, 2, 4, 6, 7, 9, 10, 11, 13, 15, 17, 18, 20, 21, 22, 23, 24, 25] (fun a0_ b a w' => ∃ (v275 : Value) (adz_v275 : Addr) (v291 : Value) (adz_v291 : Addr) (m10_ : Value) (m21_ : Value), a = putSel a0_ b [(0, 11, .agg #[.int .i64 t258, .slice Ao23 t259.length co23]), (2, 13, .int .i64 t265), (4, 15, .int .i64 t268), (6, 17, .int .i64 t271), (7, 18, v275), (9, 20, .int .i64 t277), (10, 21, m10_), (11, 22, .int .i64 (rd y274 t277)), (13, 24, .int .i64 t281), (15, 26, .int .i64 t284), (17, 28, .int .i64 t287), (18, 29, v291), (20, 31, .int .i64 t293), (21, 32, m21_), (22, 33, .int .i64 (rd y290 t293)), (24, 3, .int .i64 (rd y274 t277)), (25, 4, .int .i64 (rd y290 t293))] ∧ (Kd.R k63 63 w' w.heap.size (fun _ => True) (.slice Ao23 t259.length co23) t259) ∧ (b 23 = false → w'.heap[gb253]? = some (.cells #[.int .i64 0, .slice none 0 0] 53 (0, 0))) ∧ (w'.heap[gb264]? = some (.cells #[.int .i64 t258, .slice Ao23 t259.length co23] 53 (0, 0))) ∧ (b 2 = false → IsS102 w w' g257 t254 t262 t263) ∧ (Below w.heap.size w w') ∧ (b 2 = true → b 4 = false → IsS102 w w' g257 t254 t266 t267) ∧ (b 4 = true → b 6 = false → IsS102 w w' g257 t254 t269 t270) ∧ (b 6 = true → b 9 = false → IsS102 w w' g257 t254 t272 t273) ∧ (b 7 = true → Kd.R (Kd.int .i64) 3 w' w.heap.size (fun _ => True) v275 y274) ∧ (b 7 = true → ∃ c_, (v275 : Value) = .slice (some adz_v275) y274.length c_) ∧ (b 9 = true → b 13 = false → IsS102 w w' g257 t254 t278 t279) ∧ (b 13 = true → b 15 = false → IsS102 w w' g257 t254 t282 t283) ∧ (b 15 = true → b 17 = false → IsS102 w w' g257 t254 t285 t286) ∧ (b 17 = true → b 20 = false → IsS102 w w' g257 t254 t288 t289) ∧ (b 18 = true → Kd.R (Kd.int .i64) 3 w' w.heap.size (fun _ => True) v291 y290) ∧ (b 18 = true → ∃ c_, (v291 : Value) = .slice (some adz_v291) y290.length c_) ∧ (b 20 = true → IsS102 w w' g257 t254 t294 t295) ∧ (b 23 = true → w'.heap[gb253]? = some (.cells #[.int .i64 t258, .slice Ao23 t259.length co23] 53 (0, 0))) ∧ (b 10 = true → (m10_ : Value) = .pointer (some (adz_v275.add (t277).toNat))) ∧ (b 21 = true → (m21_ : Value) = .pointer (some (adz_v291.add (t293).toNat)))) HT_.out HW_.out (by kernel_rfl) (by kernel_rfl) ?_ ?_ ?_
     ·exact ⟨.bool false, ⟨0, 0, none⟩, .bool false, ⟨0, 0, none⟩, .bool false, .bool false, by simp only [putSel, Bool.false_eq_true, if_false], HO261.out, fun _ => BK253.out, BK264.out, fun _ => HI257.out, HB.out, fun h_ => absurd h_ (by decide), fun h_ => absurd h_ (by decide), fun h_ => absurd h_ (by decide), fun h_ => absurd h_ (by decide), fun h_ => absurd h_ (by decide), fun h_ => absurd h_ (by decide), fun h_ => absurd h_ (by decide), fun h_ => absurd h_ (by decide), fun h_ => absurd h_ (by decide), fun h_ => absurd h_ (by decide), fun h_ => absurd h_ (by decide), fun h_ => absurd h_ (by decide), fun h_ => absurd h_ (by decide), fun h_ => absurd h_ (by decide), fun h_ => absurd h_ (by decide)⟩
     ·skip
      clear BK253 BK264 HB HI257 HO261
      refine steps_cons ?_ ?_
      ·rintro b a w' ⟨v275, adz_v275, v291, adz_v291, m10_, m21_, ha, Q_HO261, Q_BK253, Q_BK264, Q_HI257, Q_HB, Q_HI257_e2, Q_HI257_e4, Q_HI257_e6, Q_HO276, Q_HA_HO276, Q_HI257_e9, Q_HI257_e13, Q_HI257_e15, Q_HI257_e17, Q_HO292, Q_HA_HO292, Q_HI257_e20, Q_BK253_e23, Q_X10_, Q_X21_⟩ hb_ hon hoff
       refine ⟨_, rfl, fun K hK => ?_⟩
       have e6 : a.tmps[6]? = some (.pointer (some ⟨gb264, 0, none⟩)) := by rw [ha]; exact (putSel_off rfl).trans rfl
       replace ha := Aside0.mk ha
       have HO261 := Aside0.mk Q_HO261
       have BK253 := Aside0.mk (Q_BK253 (hoff 23 (by kernel_rfl)))
       have BK264 := Aside0.mk Q_BK264
       have HB := Aside0.mk Q_HB
       have hc0_ : w'.cell? ⟨gb264, 0, none⟩ = some (.int .i64 t258) := (blk_cell BK264.out 0).trans rfl
       have hc1_ : w'.cell? ⟨gb264, 1, none⟩ = some (.slice Ao23 t259.length co23) := (blk_cell BK264.out 1).trans rfl
       refine value_ (w1 := w') (v := .agg #[.int .i64 t258, .slice Ao23 t259.length co23]) (by rfl) rfl ?_ ?_
       ·go_simp
        (try simp only [i64_w])
        try rfl
       refine hK.out _ _ ⟨v275, adz_v275, v291, adz_v291, m10_, m21_, (by rw [ha.out]; exact putSel_upk 0 hb_ rfl rfl rfl), Q_HO261, Q_BK253, Q_BK264, Q_HI257, Q_HB, Q_HI257_e2, Q_HI257_e4, Q_HI257_e6, Q_HO276, Q_HA_HO276, Q_HI257_e9, Q_HI257_e13, Q_HI257_e15, Q_HI257_e17, Q_HO292, Q_HA_HO292, Q_HI257_e20, fun h0_ => absurd ((hoff 23 (by kernel_rfl)).symm.trans h0_) (by decide), Q_X10_, Q_X21_⟩
      refine steps_cons ?_ ?_
      ·rintro b a w' ⟨v275, adz_v275, v291, adz_v291, m10_, m21_, ha, Q_HO261, Q_BK253, Q_BK264, Q_HI257, Q_HB, Q_HI257_e2, Q_HI257_e4, Q_HI257_e6, Q_HO276, Q_HA_HO276, Q_HI257_e9, Q_HI257_e13, Q_HI257_e15, Q_HI257_e17, Q_HO292, Q_HA_HO292, Q_HI257_e20, Q_BK253_e23, Q_X10_, Q_X21_⟩ hb_ hon hoff
       refine ⟨_, rfl, fun K hK => ?_⟩
       have e12 : a.tmps[12]? = some (.pointer (some ⟨g257, 0, none⟩)) := by rw [ha]; exact (putSel_off rfl).trans rfl
       replace ha := Aside0.mk ha
       have HO261 := Aside0.mk Q_HO261
       have BK253 := Aside0.mk (Q_BK253 (hoff 23 (by kernel_rfl)))
       have BK264 := Aside0.mk Q_BK264
       have HI257 := Aside0.mk (Q_HI257 hb_)
       have HB := Aside0.mk Q_HB
       refine goes_ Try.func67 (by kernel_rfl) rfl #[.pointer (some ⟨g257, 0, none⟩), .int .i64 4] (by rfl) rfl rfl (by first | (simp only [List.map_toArray, List.map_cons, List.map_nil, Act.eval, Array.getD_eq_getD_getElem?, Option.getD_some, e12]; done) | (simp only [List.map_toArray, List.map_cons, List.map_nil, Act.eval, Array.getD_eq_getD_getElem?, Option.getD_some, e12]; rfl)) ?_
       with_reducible refine (spec_l01Cur_pick.calls g257 t254 t262 t263 4 t265 t266 t267 w _ ?side1 ?side2 A4.out).mono ?_
       (case side1 => exact zb99)
       (case side2 => exact zb100)
       rintro e w26 ⟨rfl, hi, hb, hk⟩
       refine ⟨_, rfl, ?_⟩
       have n0_ := Aside0.mk (KeepBut.blk hk (g' := gb253) (o := .cells #[.int .i64 0, .slice none 0 0] 53 (0, 0)) (zb93) NB253_257.out (by simp))
       have n1_ := Aside0.mk (Kd.R_mono (Kd.R_keep (IsS102.apart (show IsS102 w _ g257 t254 t262 t263 from zb97) (zb95) (by decide)) hk (fun _ h => h.2)) (fun _ h => h.1))
       have n2_ := Aside0.mk (KeepBut.blk hk (g' := gb264) (o := .cells #[.int .i64 t258, .slice Ao23 t259.length co23] 53 (0, 0)) (zb101) NB264_257.out (by simp))
       have n3_ := Aside0.mk (hb)
       have n4_ := Aside0.mk (hi)
       clear BK253
       clear HO261
       clear BK264
       clear HB
       clear HI257
       have BK253 := n0_
       have HO261 := n1_
       have BK264 := n2_
       have HB := n3_
       have HI257 := n4_
       clear n0_ n1_ n2_ n3_ n4_
       (try clear hb)
       (try clear hb2)
       (try clear hk)
       (try clear hi)
       refine hK.out _ _ ⟨v275, adz_v275, v291, adz_v291, m10_, m21_, (by rw [ha.out]; exact putSel_upk 1 hb_ rfl rfl rfl), (zb95), fun _ => (zb93), (zb101), fun h0_ => absurd ((up_self b 2).symm.trans h0_) (by decide), (zb98), fun _ _ => (zb97), fun h0_ _ => absurd ((hoff 4 (by kernel_rfl)).symm.trans h0_) (by decide), fun h0_ _ => absurd ((hoff 6 (by kernel_rfl)).symm.trans h0_) (by decide), fun h0_ => absurd ((hoff 7 (by kernel_rfl)).symm.trans h0_) (by decide), fun h0_ => absurd ((hoff 7 (by kernel_rfl)).symm.trans h0_) (by decide), fun h0_ _ => absurd ((hoff 9 (by kernel_rfl)).symm.trans h0_) (by decide), fun h0_ _ => absurd ((hoff 13 (by kernel_rfl)).symm.trans h0_) (by decide), fun h0_ _ => absurd ((hoff 15 (by kernel_rfl)).symm.trans h0_) (by decide), fun h0_ _ => absurd ((hoff 17 (by kernel_rfl)).symm.trans h0_) (by decide), fun h0_ => absurd ((hoff 18 (by kernel_rfl)).symm.trans h0_) (by decide), fun h0_ => absurd ((hoff 18 (by kernel_rfl)).symm.trans h0_) (by decide), fun h0_ => absurd ((hoff 20 (by kernel_rfl)).symm.trans h0_) (by decide), fun h0_ => absurd ((hoff 23 (by kernel_rfl)).symm.trans h0_) (by decide), fun h0_ => absurd ((hoff 10 (by kernel_rfl)).symm.trans h0_) (by decide), fun h0_ => absurd ((hoff 21 (by kernel_rfl)).symm.trans h0_) (by decide)⟩
      refine steps_cons ?_ ?_
      ·rintro b a w' ⟨v275, adz_v275, v291, adz_v291, m10_, m21_, ha, Q_HO261, Q_BK253, Q_BK264, Q_HI257, Q_HB, Q_HI257_e2, Q_HI257_e4, Q_HI257_e6, Q_HO276, Q_HA_HO276, Q_HI257_e9, Q_HI257_e13, Q_HI257_e15, Q_HI257_e17, Q_HO292, Q_HA_HO292, Q_HI257_e20, Q_BK253_e23, Q_X10_, Q_X21_⟩ hb_ hon hoff
       refine ⟨_, rfl, fun K hK => ?_⟩
       have e14 : a.tmps[14]? = some (.pointer (some ⟨g257, 0, none⟩)) := by rw [ha]; exact (putSel_off rfl).trans rfl
       replace ha := Aside0.mk ha
       have HO261 := Aside0.mk Q_HO261
       have BK253 := Aside0.mk (Q_BK253 (hoff 23 (by kernel_rfl)))
       have BK264 := Aside0.mk Q_BK264
       have HB := Aside0.mk Q_HB
       have HI257 := Aside0.mk (Q_HI257_e2 (hon 2 (by kernel_rfl)) hb_)
       refine goes_ Try.func67 (by kernel_rfl) rfl #[.pointer (some ⟨g257, 0, none⟩), .int .i64 4] (by rfl) rfl rfl (by first | (simp only [List.map_toArray, List.map_cons, List.map_nil, Act.eval, Array.getD_eq_getD_getElem?, Option.getD_some, e14]; done) | (simp only [List.map_toArray, List.map_cons, List.map_nil, Act.eval, Array.getD_eq_getD_getElem?, Option.getD_some, e14]; rfl)) ?_
       with_reducible refine (spec_l01Cur_pick.calls g257 t254 t266 t267 4 t268 t269 t270 w _ ?side1 ?side2 A5.out).mono ?_
       (case side1 => exact zb99)
       (case side2 => exact zb100)
       rintro e w28 ⟨rfl, hi, hb, hk⟩
       refine ⟨_, rfl, ?_⟩
       have n0_ := Aside0.mk (KeepBut.blk hk (g' := gb253) (o := .cells #[.int .i64 0, .slice none 0 0] 53 (0, 0)) (zb93) NB253_257.out (by simp))
       have n1_ := Aside0.mk (Kd.R_mono (Kd.R_keep (IsS102.apart (show IsS102 w _ g257 t254 t266 t267 from zb97) (zb95) (by decide)) hk (fun _ h => h.2)) (fun _ h => h.1))
       have n2_ := Aside0.mk (KeepBut.blk hk (g' := gb264) (o := .cells #[.int .i64 t258, .slice Ao23 t259.length co23] 53 (0, 0)) (zb101) NB264_257.out (by simp))
       have n3_ := Aside0.mk (hb)
       have n4_ := Aside0.mk (hi)
       clear BK253
       clear HO261
       clear BK264
       clear HB
       clear HI257
       have BK253 := n0_
       have HO261 := n1_
       have BK264 := n2_
       have HB := n3_
       have HI257 := n4_
       clear n0_ n1_ n2_ n3_ n4_
       (try clear hb)
       (try clear hb2)
       (try clear hk)
       (try clear hi)
       refine hK.out _ _ ⟨v275, adz_v275, v291, adz_v291, m10_, m21_, (by rw [ha.out]; exact putSel_upk 2 hb_ rfl rfl rfl), (zb95), fun _ => (zb93), (zb101), fun h0_ => absurd ((hon 2 (by kernel_rfl)).symm.trans h0_) (by decide), (zb98), fun _ h1_ => absurd ((up_self b 4).symm.trans h1_) (by decide), fun _ _ => (zb97), fun h0_ _ => absurd ((hoff 6 (by kernel_rfl)).symm.trans h0_) (by decide), fun h0_ => absurd ((hoff 7 (by kernel_rfl)).symm.trans h0_) (by decide), fun h0_ => absurd ((hoff 7 (by kernel_rfl)).symm.trans h0_) (by decide), fun h0_ _ => absurd ((hoff 9 (by kernel_rfl)).symm.trans h0_) (by decide), fun h0_ _ => absurd ((hoff 13 (by kernel_rfl)).symm.trans h0_) (by decide), fun h0_ _ => absurd ((hoff 15 (by kernel_rfl)).symm.trans h0_) (by decide), fun h0_ _ => absurd ((hoff 17 (by kernel_rfl)).symm.trans h0_) (by decide), fun h0_ => absurd ((hoff 18 (by kernel_rfl)).symm.trans h0_) (by decide), fun h0_ => absurd ((hoff 18 (by kernel_rfl)).symm.trans h0_) (by decide), fun h0_ => absurd ((hoff 20 (by kernel_rfl)).symm.trans h0_) (by decide), fun h0_ => absurd ((hoff 23 (by kernel_rfl)).symm.trans h0_) (by decide), fun h0_ => absurd ((hoff 10 (by kernel_rfl)).symm.trans h0_) (by decide), fun h0_ => absurd ((hoff 21 (by kernel_rfl)).symm.trans h0_) (by decide)⟩
      refine steps_cons ?_ ?_
      ·rintro b a w' ⟨v275, adz_v275, v291, adz_v291, m10_, m21_, ha, Q_HO261, Q_BK253, Q_BK264, Q_HI257, Q_HB, Q_HI257_e2, Q_HI257_e4, Q_HI257_e6, Q_HO276, Q_HA_HO276, Q_HI257_e9, Q_HI257_e13, Q_HI257_e15, Q_HI257_e17, Q_HO292, Q_HA_HO292, Q_HI257_e20, Q_BK253_e23, Q_X10_, Q_X21_⟩ hb_ hon hoff
       refine ⟨_, rfl, fun K hK => ?_⟩
       have e16 : a.tmps[16]? = some (.pointer (some ⟨g257, 0, none⟩)) := by rw [ha]; exact (putSel_off rfl).trans rfl
       replace ha := Aside0.mk ha
       have HO261 := Aside0.mk Q_HO261
       have BK253 := Aside0.mk (Q_BK253 (hoff 23 (by kernel_rfl)))
       have BK264 := Aside0.mk Q_BK264
       have HB := Aside0.mk Q_HB
       have HI257 := Aside0.mk (Q_HI257_e4 (hon 4 (by kernel_rfl)) hb_)
       refine goes_ Try.func47 (by kernel_rfl) rfl #[.pointer (some ⟨g257, 0, none⟩)] (by rfl) rfl rfl (by first | (simp only [List.map_toArray, List.map_cons, List.map_nil, Act.eval, Array.getD_eq_getD_getElem?, Option.getD_some, e16]; done) | (simp only [List.map_toArray, List.map_cons, List.map_nil, Act.eval, Array.getD_eq_getD_getElem?, Option.getD_some, e16]; rfl)) ?_
       with_reducible refine (spec_l01Cur_raw.calls g257 t254 t269 t270 t271 t272 t273 w _ ?side1 ?side2 A6.out).mono ?_
       (case side1 => exact zb99)
       (case side2 => exact zb100)
       rintro e w29 ⟨rfl, hi, hb, hk⟩
       refine ⟨_, rfl, ?_⟩
       have n0_ := Aside0.mk (KeepBut.blk hk (g' := gb253) (o := .cells #[.int .i64 0, .slice none 0 0] 53 (0, 0)) (zb93) NB253_257.out (by simp))
       have n1_ := Aside0.mk (Kd.R_mono (Kd.R_keep (IsS102.apart (show IsS102 w _ g257 t254 t269 t270 from zb97) (zb95) (by decide)) hk (fun _ h => h.2)) (fun _ h => h.1))
       have n2_ := Aside0.mk (KeepBut.blk hk (g' := gb264) (o := .cells #[.int .i64 t258, .slice Ao23 t259.length co23] 53 (0, 0)) (zb101) NB264_257.out (by simp))
       have n3_ := Aside0.mk (hb)
       have n4_ := Aside0.mk (hi)
       clear BK253
       clear HO261
       clear BK264
       clear HB
       clear HI257
       have BK253 := n0_
       have HO261 := n1_
       have BK264 := n2_
       have HB := n3_
       have HI257 := n4_
       clear n0_ n1_ n2_ n3_ n4_
       (try clear hb)
       (try clear hb2)
       (try clear hk)
       (try clear hi)
       refine hK.out _ _ ⟨v275, adz_v275, v291, adz_v291, m10_, m21_, (by rw [ha.out]; exact putSel_upk 3 hb_ rfl rfl rfl), (zb95), fun _ => (zb93), (zb101), fun h0_ => absurd ((hon 2 (by kernel_rfl)).symm.trans h0_) (by decide), (zb98), fun _ h1_ => absurd ((hon 4 (by kernel_rfl)).symm.trans h1_) (by decide), fun _ h1_ => absurd ((up_self b 6).symm.trans h1_) (by decide), fun _ _ => (zb97), fun h0_ => absurd ((hoff 7 (by kernel_rfl)).symm.trans h0_) (by decide), fun h0_ => absurd ((hoff 7 (by kernel_rfl)).symm.trans h0_) (by decide), fun h0_ _ => absurd ((hoff 9 (by kernel_rfl)).symm.trans h0_) (by decide), fun h0_ _ => absurd ((hoff 13 (by kernel_rfl)).symm.trans h0_) (by decide), fun h0_ _ => absurd ((hoff 15 (by kernel_rfl)).symm.trans h0_) (by decide), fun h0_ _ => absurd ((hoff 17 (by kernel_rfl)).symm.trans h0_) (by decide), fun h0_ => absurd ((hoff 18 (by kernel_rfl)).symm.trans h0_) (by decide), fun h0_ => absurd ((hoff 18 (by kernel_rfl)).symm.trans h0_) (by decide), fun h0_ => absurd ((hoff 20 (by kernel_rfl)).symm.trans h0_) (by decide), fun h0_ => absurd ((hoff 23 (by kernel_rfl)).symm.trans h0_) (by decide), fun h0_ => absurd ((hoff 10 (by kernel_rfl)).symm.trans h0_) (by decide), fun h0_ => absurd ((hoff 21 (by kernel_rfl)).symm.trans h0_) (by decide)⟩
      refine steps_cons ?_ ?_
      ·rintro b a w' ⟨v275, adz_v275, v291, adz_v291, m10_, m21_, ha, Q_HO261, Q_BK253, Q_BK264, Q_HI257, Q_HB, Q_HI257_e2, Q_HI257_e4, Q_HI257_e6, Q_HO276, Q_HA_HO276, Q_HI257_e9, Q_HI257_e13, Q_HI257_e15, Q_HI257_e17, Q_HO292, Q_HA_HO292, Q_HI257_e20, Q_BK253_e23, Q_X10_, Q_X21_⟩ hb_ hon hoff
       refine ⟨_, rfl, fun K hK => ?_⟩
       have e13 : a.tmps[13]? = some (.int .i64 t265) := by rw [ha]; exact putSel_on (e := (2, 13, .int .i64 t265)) 1 rfl rfl (hon 2 (by kernel_rfl)) rfl
       have e15 : a.tmps[15]? = some (.int .i64 t268) := by rw [ha]; exact putSel_on (e := (4, 15, .int .i64 t268)) 2 rfl rfl (hon 4 (by kernel_rfl)) rfl
       have e17 : a.tmps[17]? = some (.int .i64 t271) := by rw [ha]; exact putSel_on (e := (6, 17, .int .i64 t271)) 3 rfl rfl (hon 6 (by kernel_rfl)) rfl
       replace ha := Aside0.mk ha
       have HO261 := Aside0.mk Q_HO261
       have BK264 := Aside0.mk Q_BK264
       have HB := Aside0.mk Q_HB
       refine Kd.R_lit_step (Kd.int .i64) _ 3 ?hg (N := 18) ?hd (xs := ([t265, t268, t271] : List Int)) (inner := [.int .i64 t265, .int .i64 t268, .int .i64 t271]) (ok := fun _ => True) (okp := fun _ => True) ?hr ?hp (fun _ hk => hk) trivial (Below.refl _ _) (Nat.le_refl _) (by simp) ?_; (case hd => rfl); (case hg => rfl); (case hr => first | (go_simp; done) | (go_simp; rfl)); (case hp => exact (Reps.one (show Kd.M (Kd.int .i64) _ _ _ t265 [.int .i64 t265] from rfl) (Reps.one (show Kd.M (Kd.int .i64) _ _ _ t268 [.int .i64 t268] from rfl) (Reps.one (show Kd.M (Kd.int .i64) _ _ _ t271 [.int .i64 t271] from rfl) (Reps.none _ _)))))
       intro v275 w30 ho31 hb hg_ hnew_
       clear hg_ hnew_
       (first | rw [← Ny274.out] at ho31 | (simp only [Int.reduceToNat] at ho31; rw [← Ny274.out] at ho31))
       have n0_ := Aside0.mk (Kd.R_below (zb95) hb)
       have n1_ := Aside0.mk (Kd.R_lower ho31 (below_size (zb102)))
       have n4_ := Aside0.mk (blk_below (g := gb264) (o := .cells #[.int .i64 t258, .slice Ao23 t259.length co23] 53 (0, 0)) (zb101) hb)
       have n5_ := Aside0.mk (below_step (zb102) hb)
       have z_BK253 := fun (h0_ : b 23 = false) => (show w30.heap[gb253]? = some (.cells #[.int .i64 0, .slice none 0 0] 53 (0, 0)) from zb103)
       have z_HI257_e6 := fun (h0_ : b 6 = true) (h1_ : b 9 = false) => (show IsS102 w w30 g257 t254 t272 t273 from by first | exact (IsS102.below (by repeat (first | (with_reducible first | exact (Q_HI257_e6 h0_ h1_) | apply IsS102.alloc | apply IsS102.drewN | apply IsS102.drew | apply IsS102.set_1 | apply IsS102.set_2 | refine IsS102.far ?_ NB257_253.out _ | refine IsS102.far ?_ NB257_264.out _) | exact (Q_HI257_e6 h0_ h1_))) hb))
       have z_HI257_e9 := fun (h0_ : b 9 = true) (h1_ : b 13 = false) => (show IsS102 w w30 g257 t254 t278 t279 from by first | exact (IsS102.below (by repeat (first | (with_reducible first | exact (Q_HI257_e9 h0_ h1_) | apply IsS102.alloc | apply IsS102.drewN | apply IsS102.drew | apply IsS102.set_1 | apply IsS102.set_2 | refine IsS102.far ?_ NB257_253.out _ | refine IsS102.far ?_ NB257_264.out _) | exact (Q_HI257_e9 h0_ h1_))) hb))
       have z_HI257_e13 := fun (h0_ : b 13 = true) (h1_ : b 15 = false) => (show IsS102 w w30 g257 t254 t282 t283 from by first | exact (IsS102.below (by repeat (first | (with_reducible first | exact (Q_HI257_e13 h0_ h1_) | apply IsS102.alloc | apply IsS102.drewN | apply IsS102.drew | apply IsS102.set_1 | apply IsS102.set_2 | refine IsS102.far ?_ NB257_253.out _ | refine IsS102.far ?_ NB257_264.out _) | exact (Q_HI257_e13 h0_ h1_))) hb))
       have z_HI257_e15 := fun (h0_ : b 15 = true) (h1_ : b 17 = false) => (show IsS102 w w30 g257 t254 t285 t286 from by first | exact (IsS102.below (by repeat (first | (with_reducible first | exact (Q_HI257_e15 h0_ h1_) | apply IsS102.alloc | apply IsS102.drewN | apply IsS102.drew | apply IsS102.set_1 | apply IsS102.set_2 | refine IsS102.far ?_ NB257_253.out _ | refine IsS102.far ?_ NB257_264.out _) | exact (Q_HI257_e15 h0_ h1_))) hb))
       have z_HI257_e17 := fun (h0_ : b 17 = true) (h1_ : b 20 = false) => (show IsS102 w w30 g257 t254 t288 t289 from zb104)
       have z_HO292 := fun (h0_ : b 18 = true) => (show Kd.R (Kd.int .i64) 3 w30 w.heap.size (fun _ => True) v291 y290 from by first | exact (Kd.R_elder' (zb105) (Kd.R_base ho31) hb) | exact Kd.R_mono (Kd.R_elder' (zb105) (Kd.R_base ho31) hb) (fun _ h_ => by first | trivial | exact h_ | exact h_.1))
       have z_HI257_e20 := fun (h0_ : b 20 = true) => (show IsS102 w w30 g257 t254 t294 t295 from zb106)
       have z_BK253_e23 := fun (h0_ : b 23 = true) => (show w30.heap[gb253]? = some (.cells #[.int .i64 t258, .slice Ao23 t259.length co23] 53 (0, 0)) from zb107)
       clear HO261
       clear BK264
       clear HB
       have HO261 := n0_
       have HO276 := n1_
       have BK264 := n4_
       have HB := n5_
       clear n0_ n1_ n4_ n5_
       clear hb ho31
       obtain ⟨Ao32, co32, eo32⟩ := Kd.R_slice HO276.out
       subst eo32
       obtain ⟨ado32, fo32, _⟩ := Kd.at_int (Kd.R_reads' HO276.out).2.2 0 (by decide) (by rw [Ny274.out]; simp)
       cases fo32
       refine hK.out _ _ ⟨.slice (some ado32) y274.length co32, ado32, v291, adz_v291, m10_, m21_, (by rw [ha.out]; exact putSel_upk 4 hb_ rfl rfl rfl), (zb95), z_BK253, (zb101), fun h0_ => absurd ((hon 2 (by kernel_rfl)).symm.trans h0_) (by decide), (zb102), fun _ h1_ => absurd ((hon 4 (by kernel_rfl)).symm.trans h1_) (by decide), fun _ h1_ => absurd ((hon 6 (by kernel_rfl)).symm.trans h1_) (by decide), z_HI257_e6, fun _ => (by (with_reducible repeat (first | apply Kd.R_alloc | apply Kd.R_drewN | apply Kd.R_drew)); exact HO276.out), fun _ => ⟨_, rfl⟩, z_HI257_e9, z_HI257_e13, z_HI257_e15, z_HI257_e17, z_HO292, Q_HA_HO292, z_HI257_e20, z_BK253_e23, fun h0_ => absurd ((hoff 10 (by kernel_rfl)).symm.trans h0_) (by decide), Q_X21_⟩
      refine steps_cons ?_ ?_
      ·rintro b a w' ⟨v275, adz_v275, v291, adz_v291, m10_, m21_, ha, Q_HO261, Q_BK253, Q_BK264, Q_HI257, Q_HB, Q_HI257_e2, Q_HI257_e4, Q_HI257_e6, Q_HO276, Q_HA_HO276, Q_HI257_e9, Q_HI257_e13, Q_HI257_e15, Q_HI257_e17, Q_HO292, Q_HA_HO292, Q_HI257_e20, Q_BK253_e23, Q_X10_, Q_X21_⟩ hb_ hon hoff
       refine ⟨_, rfl, fun K hK => ?_⟩
       have e19 : a.tmps[19]? = some (.pointer (some ⟨g257, 0, none⟩)) := by rw [ha]; exact (putSel_off rfl).trans rfl
       replace ha := Aside0.mk ha
       have HO261 := Aside0.mk Q_HO261
       have BK253 := Aside0.mk (Q_BK253 (hoff 23 (by kernel_rfl)))
       have BK264 := Aside0.mk Q_BK264
       have HB := Aside0.mk Q_HB
       have HI257 := Aside0.mk (Q_HI257_e6 (hon 6 (by kernel_rfl)) hb_)
       refine goes_ Try.func67 (by kernel_rfl) rfl #[.pointer (some ⟨g257, 0, none⟩), .int .i64 3] (by rfl) rfl rfl (by first | (simp only [List.map_toArray, List.map_cons, List.map_nil, Act.eval, Array.getD_eq_getD_getElem?, Option.getD_some, e19]; done) | (simp only [List.map_toArray, List.map_cons, List.map_nil, Act.eval, Array.getD_eq_getD_getElem?, Option.getD_some, e19]; rfl)) ?_
       with_reducible refine (spec_l01Cur_pick.calls g257 t254 t272 t273 3 t277 t278 t279 w _ ?side1 ?side2 A7.out).mono ?_
       (case side1 => exact zb99)
       (case side2 => exact zb100)
       rintro e w30 ⟨rfl, hi, hb, hk⟩
       refine ⟨_, rfl, ?_⟩
       have n0_ := Aside0.mk (KeepBut.blk hk (g' := gb253) (o := .cells #[.int .i64 0, .slice none 0 0] 53 (0, 0)) (zb93) NB253_257.out (by simp))
       have n1_ := Aside0.mk (Kd.R_mono (Kd.R_keep (IsS102.apart (show IsS102 w _ g257 t254 t272 t273 from zb97) (zb95) (by decide)) hk (fun _ h => h.2)) (fun _ h => h.1))
       have n2_ := Aside0.mk (KeepBut.blk hk (g' := gb264) (o := .cells #[.int .i64 t258, .slice Ao23 t259.length co23] 53 (0, 0)) (zb101) NB264_257.out (by simp))
       have n3_ := Aside0.mk (hb)
       have n4_ := Aside0.mk (hi)
       have z_HO276 := fun (h0_ : b 7 = true) => (show Kd.R (Kd.int .i64) 3 w30 w.heap.size (fun _ => True) v275 y274 from by first | exact (Kd.R_mono (Kd.R_keep (IsS102.apart (show IsS102 w _ g257 t254 t272 t273 from zb97) (zb108) (by decide)) hk (fun _ h => h.2)) (fun _ h => h.1)) | exact Kd.R_mono (Kd.R_mono (Kd.R_keep (IsS102.apart (show IsS102 w _ g257 t254 t272 t273 from zb97) (zb108) (by decide)) hk (fun _ h => h.2)) (fun _ h => h.1)) (fun _ h_ => by first | trivial | exact h_ | exact h_.1))
       clear BK253
       clear HO261
       clear BK264
       clear HB
       clear HI257
       have BK253 := n0_
       have HO261 := n1_
       have BK264 := n2_
       have HB := n3_
       have HI257 := n4_
       clear n0_ n1_ n2_ n3_ n4_
       (try clear hb)
       (try clear hb2)
       (try clear hk)
       (try clear hi)
       refine hK.out _ _ ⟨v275, adz_v275, v291, adz_v291, m10_, m21_, (by rw [ha.out]; exact putSel_upk 5 hb_ rfl rfl rfl), (zb95), fun _ => (zb93), (zb101), fun h0_ => absurd ((hon 2 (by kernel_rfl)).symm.trans h0_) (by decide), (zb98), fun _ h1_ => absurd ((hon 4 (by kernel_rfl)).symm.trans h1_) (by decide), fun _ h1_ => absurd ((hon 6 (by kernel_rfl)).symm.trans h1_) (by decide), fun _ h1_ => absurd ((up_self b 9).symm.trans h1_) (by decide), z_HO276, Q_HA_HO276, fun _ _ => (zb97), fun h0_ _ => absurd ((hoff 13 (by kernel_rfl)).symm.trans h0_) (by decide), fun h0_ _ => absurd ((hoff 15 (by kernel_rfl)).symm.trans h0_) (by decide), fun h0_ _ => absurd ((hoff 17 (by kernel_rfl)).symm.trans h0_) (by decide), fun h0_ => absurd ((hoff 18 (by kernel_rfl)).symm.trans h0_) (by decide), fun h0_ => absurd ((hoff 18 (by kernel_rfl)).symm.trans h0_) (by decide), fun h0_ => absurd ((hoff 20 (by kernel_rfl)).symm.trans h0_) (by decide), fun h0_ => absurd ((hoff 23 (by kernel_rfl)).symm.trans h0_) (by decide), fun h0_ => absurd ((hoff 10 (by kernel_rfl)).symm.trans h0_) (by decide), fun h0_ => absurd ((hoff 21 (by kernel_rfl)).symm.trans h0_) (by decide)⟩
      refine steps_cons ?_ ?_
      ·rintro b a w' ⟨v275, adz_v275, v291, adz_v291, m10_, m21_, ha, Q_HO261, Q_BK253, Q_BK264, Q_HI257, Q_HB, Q_HI257_e2, Q_HI257_e4, Q_HI257_e6, Q_HO276, Q_HA_HO276, Q_HI257_e9, Q_HI257_e13, Q_HI257_e15, Q_HI257_e17, Q_HO292, Q_HA_HO292, Q_HI257_e20, Q_BK253_e23, Q_X10_, Q_X21_⟩ hb_ hon hoff
       refine ⟨_, rfl, fun K hK => ?_⟩
       have e18 : a.tmps[18]? = some (v275) := by rw [ha]; exact putSel_on (e := (7, 18, v275)) 4 rfl rfl (hon 7 (by kernel_rfl)) rfl
       have e20 : a.tmps[20]? = some (.int .i64 t277) := by rw [ha]; exact putSel_on (e := (9, 20, .int .i64 t277)) 5 rfl rfl (hon 9 (by kernel_rfl)) rfl
       replace ha := Aside0.mk ha
       have HO261 := Aside0.mk Q_HO261
       have BK264 := Aside0.mk Q_BK264
       have HB := Aside0.mk Q_HB
       have HO276 := Aside0.mk (Q_HO276 (hon 7 (by kernel_rfl)))
       have HA_HO276 := Aside0.mk (Q_HA_HO276 (hon 7 (by kernel_rfl)))
       obtain ⟨c_, hv_⟩ := HA_HO276.out
       rw [hv_] at e18
       refine value_ (w1 := w') (v := .pointer (some (adz_v275.add (t277).toNat))) (by rfl) rfl ?_ ?_
       ·go_simp
        (try simp only [i64_w])
        try rfl
       refine hK.out _ _ ⟨v275, adz_v275, v291, adz_v291, (.pointer (some (adz_v275.add (t277).toNat))), m21_, (by rw [ha.out]; exact putSel_upk 6 hb_ rfl rfl rfl), Q_HO261, Q_BK253, Q_BK264, fun h0_ => absurd ((hon 2 (by kernel_rfl)).symm.trans h0_) (by decide), Q_HB, fun _ h1_ => absurd ((hon 4 (by kernel_rfl)).symm.trans h1_) (by decide), fun _ h1_ => absurd ((hon 6 (by kernel_rfl)).symm.trans h1_) (by decide), fun _ h1_ => absurd ((hon 9 (by kernel_rfl)).symm.trans h1_) (by decide), Q_HO276, Q_HA_HO276, Q_HI257_e9, Q_HI257_e13, Q_HI257_e15, Q_HI257_e17, Q_HO292, Q_HA_HO292, Q_HI257_e20, Q_BK253_e23, fun _ => rfl, Q_X21_⟩
      refine steps_cons ?_ ?_
      ·rintro b a w' ⟨v275, adz_v275, v291, adz_v291, m10_, m21_, ha, Q_HO261, Q_BK253, Q_BK264, Q_HI257, Q_HB, Q_HI257_e2, Q_HI257_e4, Q_HI257_e6, Q_HO276, Q_HA_HO276, Q_HI257_e9, Q_HI257_e13, Q_HI257_e15, Q_HI257_e17, Q_HO292, Q_HA_HO292, Q_HI257_e20, Q_BK253_e23, Q_X10_, Q_X21_⟩ hb_ hon hoff
       refine ⟨_, rfl, fun K hK => ?_⟩
       have e21 : a.tmps[21]? = some (m10_) := by rw [ha]; exact putSel_on (e := (10, 21, m10_)) 6 rfl rfl (hon 10 (by kernel_rfl)) rfl
       rw [Q_X10_ (hon 10 (by kernel_rfl))] at e21
       replace ha := Aside0.mk ha
       have HO261 := Aside0.mk Q_HO261
       have BK264 := Aside0.mk Q_BK264
       have HB := Aside0.mk Q_HB
       have HO276 := Aside0.mk (Q_HO276 (hon 7 (by kernel_rfl)))
       have HA_HO276 := Aside0.mk (Q_HA_HO276 (hon 7 (by kernel_rfl)))
       obtain ⟨c_, hv_⟩ := HA_HO276.out
       have hF_ := HO276.out
       rw [hv_] at hF_
       obtain ⟨ad_, ea_, hx_⟩ := Kd.at_int (Kd.R_reads' hF_).2.2 t277 (of_eq_true pi280) (of_eq_true qi280)
       cases ea_
       refine value_ (w1 := w') (v := .int .i64 (rd y274 t277)) (by rfl) rfl ?_ ?_
       ·go_simp
        (try simp only [i64_w])
        try rfl
       refine hK.out _ _ ⟨v275, adz_v275, v291, adz_v291, m10_, m21_, (by rw [ha.out]; exact putSel_upk 7 hb_ rfl rfl rfl), Q_HO261, Q_BK253, Q_BK264, fun h0_ => absurd ((hon 2 (by kernel_rfl)).symm.trans h0_) (by decide), Q_HB, fun _ h1_ => absurd ((hon 4 (by kernel_rfl)).symm.trans h1_) (by decide), fun _ h1_ => absurd ((hon 6 (by kernel_rfl)).symm.trans h1_) (by decide), fun _ h1_ => absurd ((hon 9 (by kernel_rfl)).symm.trans h1_) (by decide), Q_HO276, Q_HA_HO276, Q_HI257_e9, Q_HI257_e13, Q_HI257_e15, Q_HI257_e17, Q_HO292, Q_HA_HO292, Q_HI257_e20, Q_BK253_e23, Q_X10_, Q_X21_⟩
      refine steps_cons ?_ ?_
      ·rintro b a w' ⟨v275, adz_v275, v291, adz_v291, m10_, m21_, ha, Q_HO261, Q_BK253, Q_BK264, Q_HI257, Q_HB, Q_HI257_e2, Q_HI257_e4, Q_HI257_e6, Q_HO276, Q_HA_HO276, Q_HI257_e9, Q_HI257_e13, Q_HI257_e15, Q_HI257_e17, Q_HO292, Q_HA_HO292, Q_HI257_e20, Q_BK253_e23, Q_X10_, Q_X21_⟩ hb_ hon hoff
       refine ⟨_, rfl, fun K hK => ?_⟩
       have e23 : a.tmps[23]? = some (.pointer (some ⟨g257, 0, none⟩)) := by rw [ha]; exact (putSel_off rfl).trans rfl
       replace ha := Aside0.mk ha
       have HO261 := Aside0.mk Q_HO261
       have BK253 := Aside0.mk (Q_BK253 (hoff 23 (by kernel_rfl)))
       have BK264 := Aside0.mk Q_BK264
       have HB := Aside0.mk Q_HB
       have HI257 := Aside0.mk (Q_HI257_e9 (hon 9 (by kernel_rfl)) hb_)
       refine goes_ Try.func67 (by kernel_rfl) rfl #[.pointer (some ⟨g257, 0, none⟩), .int .i64 50] (by rfl) rfl rfl (by first | (simp only [List.map_toArray, List.map_cons, List.map_nil, Act.eval, Array.getD_eq_getD_getElem?, Option.getD_some, e23]; done) | (simp only [List.map_toArray, List.map_cons, List.map_nil, Act.eval, Array.getD_eq_getD_getElem?, Option.getD_some, e23]; rfl)) ?_
       with_reducible refine (spec_l01Cur_pick.calls g257 t254 t278 t279 50 t281 t282 t283 w _ ?side1 ?side2 A10.out).mono ?_
       (case side1 => exact zb99)
       (case side2 => exact zb100)
       rintro e w31 ⟨rfl, hi, hb, hk⟩
       refine ⟨_, rfl, ?_⟩
       have n0_ := Aside0.mk (KeepBut.blk hk (g' := gb253) (o := .cells #[.int .i64 0, .slice none 0 0] 53 (0, 0)) (zb93) NB253_257.out (by simp))
       have n1_ := Aside0.mk (Kd.R_mono (Kd.R_keep (IsS102.apart (show IsS102 w _ g257 t254 t278 t279 from zb97) (zb95) (by decide)) hk (fun _ h => h.2)) (fun _ h => h.1))
       have n2_ := Aside0.mk (KeepBut.blk hk (g' := gb264) (o := .cells #[.int .i64 t258, .slice Ao23 t259.length co23] 53 (0, 0)) (zb101) NB264_257.out (by simp))
       have n3_ := Aside0.mk (hb)
       have n4_ := Aside0.mk (hi)
       have z_HO276 := fun (h0_ : b 7 = true) => (show Kd.R (Kd.int .i64) 3 w31 w.heap.size (fun _ => True) v275 y274 from by first | exact (Kd.R_mono (Kd.R_keep (IsS102.apart (show IsS102 w _ g257 t254 t278 t279 from zb97) (zb108) (by decide)) hk (fun _ h => h.2)) (fun _ h => h.1)) | exact Kd.R_mono (Kd.R_mono (Kd.R_keep (IsS102.apart (show IsS102 w _ g257 t254 t278 t279 from zb97) (zb108) (by decide)) hk (fun _ h => h.2)) (fun _ h => h.1)) (fun _ h_ => by first | trivial | exact h_ | exact h_.1))
       clear BK253
       clear HO261
       clear BK264
       clear HB
       clear HI257
       have BK253 := n0_
       have HO261 := n1_
       have BK264 := n2_
       have HB := n3_
       have HI257 := n4_
       clear n0_ n1_ n2_ n3_ n4_
       (try clear hb)
       (try clear hb2)
       (try clear hk)
       (try clear hi)
       refine hK.out _ _ ⟨v275, adz_v275, v291, adz_v291, m10_, m21_, (by rw [ha.out]; exact putSel_upk 8 hb_ rfl rfl rfl), (zb95), fun _ => (zb93), (zb101), fun h0_ => absurd ((hon 2 (by kernel_rfl)).symm.trans h0_) (by decide), (zb98), fun _ h1_ => absurd ((hon 4 (by kernel_rfl)).symm.trans h1_) (by decide), fun _ h1_ => absurd ((hon 6 (by kernel_rfl)).symm.trans h1_) (by decide), fun _ h1_ => absurd ((hon 9 (by kernel_rfl)).symm.trans h1_) (by decide), z_HO276, Q_HA_HO276, fun _ h1_ => absurd ((up_self b 13).symm.trans h1_) (by decide), fun _ _ => (zb97), fun h0_ _ => absurd ((hoff 15 (by kernel_rfl)).symm.trans h0_) (by decide), fun h0_ _ => absurd ((hoff 17 (by kernel_rfl)).symm.trans h0_) (by decide), fun h0_ => absurd ((hoff 18 (by kernel_rfl)).symm.trans h0_) (by decide), fun h0_ => absurd ((hoff 18 (by kernel_rfl)).symm.trans h0_) (by decide), fun h0_ => absurd ((hoff 20 (by kernel_rfl)).symm.trans h0_) (by decide), fun h0_ => absurd ((hoff 23 (by kernel_rfl)).symm.trans h0_) (by decide), Q_X10_, fun h0_ => absurd ((hoff 21 (by kernel_rfl)).symm.trans h0_) (by decide)⟩
      refine steps_cons ?_ ?_
      ·rintro b a w' ⟨v275, adz_v275, v291, adz_v291, m10_, m21_, ha, Q_HO261, Q_BK253, Q_BK264, Q_HI257, Q_HB, Q_HI257_e2, Q_HI257_e4, Q_HI257_e6, Q_HO276, Q_HA_HO276, Q_HI257_e9, Q_HI257_e13, Q_HI257_e15, Q_HI257_e17, Q_HO292, Q_HA_HO292, Q_HI257_e20, Q_BK253_e23, Q_X10_, Q_X21_⟩ hb_ hon hoff
       refine ⟨_, rfl, fun K hK => ?_⟩
       have e25 : a.tmps[25]? = some (.pointer (some ⟨g257, 0, none⟩)) := by rw [ha]; exact (putSel_off rfl).trans rfl
       replace ha := Aside0.mk ha
       have HO261 := Aside0.mk Q_HO261
       have BK253 := Aside0.mk (Q_BK253 (hoff 23 (by kernel_rfl)))
       have BK264 := Aside0.mk Q_BK264
       have HB := Aside0.mk Q_HB
       have HI257 := Aside0.mk (Q_HI257_e13 (hon 13 (by kernel_rfl)) hb_)
       refine goes_ Try.func67 (by kernel_rfl) rfl #[.pointer (some ⟨g257, 0, none⟩), .int .i64 50] (by rfl) rfl rfl (by first | (simp only [List.map_toArray, List.map_cons, List.map_nil, Act.eval, Array.getD_eq_getD_getElem?, Option.getD_some, e25]; done) | (simp only [List.map_toArray, List.map_cons, List.map_nil, Act.eval, Array.getD_eq_getD_getElem?, Option.getD_some, e25]; rfl)) ?_
       with_reducible refine (spec_l01Cur_pick.calls g257 t254 t282 t283 50 t284 t285 t286 w _ ?side1 ?side2 A11.out).mono ?_
       (case side1 => exact zb99)
       (case side2 => exact zb100)
       rintro e w32 ⟨rfl, hi, hb, hk⟩
       refine ⟨_, rfl, ?_⟩
       have n0_ := Aside0.mk (KeepBut.blk hk (g' := gb253) (o := .cells #[.int .i64 0, .slice none 0 0] 53 (0, 0)) (zb93) NB253_257.out (by simp))
       have n1_ := Aside0.mk (Kd.R_mono (Kd.R_keep (IsS102.apart (show IsS102 w _ g257 t254 t282 t283 from zb97) (zb95) (by decide)) hk (fun _ h => h.2)) (fun _ h => h.1))
       have n2_ := Aside0.mk (KeepBut.blk hk (g' := gb264) (o := .cells #[.int .i64 t258, .slice Ao23 t259.length co23] 53 (0, 0)) (zb101) NB264_257.out (by simp))
       have n3_ := Aside0.mk (hb)
       have n4_ := Aside0.mk (hi)
       have z_HO276 := fun (h0_ : b 7 = true) => (show Kd.R (Kd.int .i64) 3 w32 w.heap.size (fun _ => True) v275 y274 from by first | exact (Kd.R_mono (Kd.R_keep (IsS102.apart (show IsS102 w _ g257 t254 t282 t283 from zb97) (zb108) (by decide)) hk (fun _ h => h.2)) (fun _ h => h.1)) | exact Kd.R_mono (Kd.R_mono (Kd.R_keep (IsS102.apart (show IsS102 w _ g257 t254 t282 t283 from zb97) (zb108) (by decide)) hk (fun _ h => h.2)) (fun _ h => h.1)) (fun _ h_ => by first | trivial | exact h_ | exact h_.1))
       clear BK253
       clear HO261
       clear BK264
       clear HB
       clear HI257
       have BK253 := n0_
       have HO261 := n1_
       have BK264 := n2_
       have HB := n3_
       have HI257 := n4_
       clear n0_ n1_ n2_ n3_ n4_
       (try clear hb)
       (try clear hb2)
       (try clear hk)
       (try clear hi)
       refine hK.out _ _ ⟨v275, adz_v275, v291, adz_v291, m10_, m21_, (by rw [ha.out]; exact putSel_upk 9 hb_ rfl rfl rfl), (zb95), fun _ => (zb93), (zb101), fun h0_ => absurd ((hon 2 (by kernel_rfl)).symm.trans h0_) (by decide), (zb98), fun _ h1_ => absurd ((hon 4 (by kernel_rfl)).symm.trans h1_) (by decide), fun _ h1_ => absurd ((hon 6 (by kernel_rfl)).symm.trans h1_) (by decide), fun _ h1_ => absurd ((hon 9 (by kernel_rfl)).symm.trans h1_) (by decide), z_HO276, Q_HA_HO276, fun _ h1_ => absurd ((hon 13 (by kernel_rfl)).symm.trans h1_) (by decide), fun _ h1_ => absurd ((up_self b 15).symm.trans h1_) (by decide), fun _ _ => (zb97), fun h0_ _ => absurd ((hoff 17 (by kernel_rfl)).symm.trans h0_) (by decide), fun h0_ => absurd ((hoff 18 (by kernel_rfl)).symm.trans h0_) (by decide), fun h0_ => absurd ((hoff 18 (by kernel_rfl)).symm.trans h0_) (by decide), fun h0_ => absurd ((hoff 20 (by kernel_rfl)).symm.trans h0_) (by decide), fun h0_ => absurd ((hoff 23 (by kernel_rfl)).symm.trans h0_) (by decide), Q_X10_, fun h0_ => absurd ((hoff 21 (by kernel_rfl)).symm.trans h0_) (by decide)⟩
      refine steps_cons ?_ ?_
      ·rintro b a w' ⟨v275, adz_v275, v291, adz_v291, m10_, m21_, ha, Q_HO261, Q_BK253, Q_BK264, Q_HI257, Q_HB, Q_HI257_e2, Q_HI257_e4, Q_HI257_e6, Q_HO276, Q_HA_HO276, Q_HI257_e9, Q_HI257_e13, Q_HI257_e15, Q_HI257_e17, Q_HO292, Q_HA_HO292, Q_HI257_e20, Q_BK253_e23, Q_X10_, Q_X21_⟩ hb_ hon hoff
       refine ⟨_, rfl, fun K hK => ?_⟩
       have e27 : a.tmps[27]? = some (.pointer (some ⟨g257, 0, none⟩)) := by rw [ha]; exact (putSel_off rfl).trans rfl
       replace ha := Aside0.mk ha
       have HO261 := Aside0.mk Q_HO261
       have BK253 := Aside0.mk (Q_BK253 (hoff 23 (by kernel_rfl)))
       have BK264 := Aside0.mk Q_BK264
       have HB := Aside0.mk Q_HB
       have HI257 := Aside0.mk (Q_HI257_e15 (hon 15 (by kernel_rfl)) hb_)
       refine goes_ Try.func47 (by kernel_rfl) rfl #[.pointer (some ⟨g257, 0, none⟩)] (by rfl) rfl rfl (by first | (simp only [List.map_toArray, List.map_cons, List.map_nil, Act.eval, Array.getD_eq_getD_getElem?, Option.getD_some, e27]; done) | (simp only [List.map_toArray, List.map_cons, List.map_nil, Act.eval, Array.getD_eq_getD_getElem?, Option.getD_some, e27]; rfl)) ?_
       with_reducible refine (spec_l01Cur_raw.calls g257 t254 t285 t286 t287 t288 t289 w _ ?side1 ?side2 A12.out).mono ?_
       (case side1 => exact zb99)
       (case side2 => exact zb100)
       rintro e w33 ⟨rfl, hi, hb, hk⟩
       refine ⟨_, rfl, ?_⟩
       have n0_ := Aside0.mk (KeepBut.blk hk (g' := gb253) (o := .cells #[.int .i64 0, .slice none 0 0] 53 (0, 0)) (zb93) NB253_257.out (by simp))
       have n1_ := Aside0.mk (Kd.R_mono (Kd.R_keep (IsS102.apart (show IsS102 w _ g257 t254 t285 t286 from zb97) (zb95) (by decide)) hk (fun _ h => h.2)) (fun _ h => h.1))
       have n2_ := Aside0.mk (KeepBut.blk hk (g' := gb264) (o := .cells #[.int .i64 t258, .slice Ao23 t259.length co23] 53 (0, 0)) (zb101) NB264_257.out (by simp))
       have n3_ := Aside0.mk (hb)
       have n4_ := Aside0.mk (hi)
       have z_HO276 := fun (h0_ : b 7 = true) => (show Kd.R (Kd.int .i64) 3 w33 w.heap.size (fun _ => True) v275 y274 from by first | exact (Kd.R_mono (Kd.R_keep (IsS102.apart (show IsS102 w _ g257 t254 t285 t286 from zb97) (zb108) (by decide)) hk (fun _ h => h.2)) (fun _ h => h.1)) | exact Kd.R_mono (Kd.R_mono (Kd.R_keep (IsS102.apart (show IsS102 w _ g257 t254 t285 t286 from zb97) (zb108) (by decide)) hk (fun _ h => h.2)) (fun _ h => h.1)) (fun _ h_ => by first | trivial | exact h_ | exact h_.1))
       clear BK253
       clear HO261
       clear BK264
       clear HB
       clear HI257
       have BK253 := n0_
       have HO261 := n1_
       have BK264 := n2_
       have HB := n3_
       have HI257 := n4_
       clear n0_ n1_ n2_ n3_ n4_
       (try clear hb)
       (try clear hb2)
       (try clear hk)
       (try clear hi)
       refine hK.out _ _ ⟨v275, adz_v275, v291, adz_v291, m10_, m21_, (by rw [ha.out]; exact putSel_upk 10 hb_ rfl rfl rfl), (zb95), fun _ => (zb93), (zb101), fun h0_ => absurd ((hon 2 (by kernel_rfl)).symm.trans h0_) (by decide), (zb98), fun _ h1_ => absurd ((hon 4 (by kernel_rfl)).symm.trans h1_) (by decide), fun _ h1_ => absurd ((hon 6 (by kernel_rfl)).symm.trans h1_) (by decide), fun _ h1_ => absurd ((hon 9 (by kernel_rfl)).symm.trans h1_) (by decide), z_HO276, Q_HA_HO276, fun _ h1_ => absurd ((hon 13 (by kernel_rfl)).symm.trans h1_) (by decide), fun _ h1_ => absurd ((hon 15 (by kernel_rfl)).symm.trans h1_) (by decide), fun _ h1_ => absurd ((up_self b 17).symm.trans h1_) (by decide), fun _ _ => (zb97), fun h0_ => absurd ((hoff 18 (by kernel_rfl)).symm.trans h0_) (by decide), fun h0_ => absurd ((hoff 18 (by kernel_rfl)).symm.trans h0_) (by decide), fun h0_ => absurd ((hoff 20 (by kernel_rfl)).symm.trans h0_) (by decide), fun h0_ => absurd ((hoff 23 (by kernel_rfl)).symm.trans h0_) (by decide), Q_X10_, fun h0_ => absurd ((hoff 21 (by kernel_rfl)).symm.trans h0_) (by decide)⟩
      refine steps_cons ?_ ?_
      ·rintro b a w' ⟨v275, adz_v275, v291, adz_v291, m10_, m21_, ha, Q_HO261, Q_BK253, Q_BK264, Q_HI257, Q_HB, Q_HI257_e2, Q_HI257_e4, Q_HI257_e6, Q_HO276, Q_HA_HO276, Q_HI257_e9, Q_HI257_e13, Q_HI257_e15, Q_HI257_e17, Q_HO292, Q_HA_HO292, Q_HI257_e20, Q_BK253_e23, Q_X10_, Q_X21_⟩ hb_ hon hoff
       refine ⟨_, rfl, fun K hK => ?_⟩
       have e24 : a.tmps[24]? = some (.int .i64 t281) := by rw [ha]; exact putSel_on (e := (13, 24, .int .i64 t281)) 8 rfl rfl (hon 13 (by kernel_rfl)) rfl
       have e26 : a.tmps[26]? = some (.int .i64 t284) := by rw [ha]; exact putSel_on (e := (15, 26, .int .i64 t284)) 9 rfl rfl (hon 15 (by kernel_rfl)) rfl
       have e28 : a.tmps[28]? = some (.int .i64 t287) := by rw [ha]; exact putSel_on (e := (17, 28, .int .i64 t287)) 10 rfl rfl (hon 17 (by kernel_rfl)) rfl
       replace ha := Aside0.mk ha
       have HO261 := Aside0.mk Q_HO261
       have BK264 := Aside0.mk Q_BK264
       have HB := Aside0.mk Q_HB
       refine Kd.R_lit_step (Kd.int .i64) _ 3 ?hg (N := 29) ?hd (xs := ([t281, t284, t287, 1000, 1001] : List Int)) (inner := [.int .i64 t281, .int .i64 t284, .int .i64 t287, .int .i64 1000, .int .i64 1001]) (ok := fun _ => True) (okp := fun _ => True) ?hr ?hp (fun _ hk => hk) trivial (Below.refl _ _) (Nat.le_refl _) (by simp) ?_; (case hd => rfl); (case hg => rfl); (case hr => first | (go_simp; done) | (go_simp; rfl)); (case hp => exact (Reps.one (show Kd.M (Kd.int .i64) _ _ _ t281 [.int .i64 t281] from rfl) (Reps.one (show Kd.M (Kd.int .i64) _ _ _ t284 [.int .i64 t284] from rfl) (Reps.one (show Kd.M (Kd.int .i64) _ _ _ t287 [.int .i64 t287] from rfl) (Reps.one (show Kd.M (Kd.int .i64) _ _ _ 1000 [.int .i64 1000] from rfl) (Reps.one (show Kd.M (Kd.int .i64) _ _ _ 1001 [.int .i64 1001] from rfl) (Reps.none _ _)))))))
       intro v291 w34 ho35 hb hg_ hnew_
       clear hg_ hnew_
       (first | rw [← Ny290.out] at ho35 | (simp only [Int.reduceToNat] at ho35; rw [← Ny290.out] at ho35))
       have n0_ := Aside0.mk (Kd.R_below (zb95) hb)
       have n1_ := Aside0.mk (Kd.R_lower ho35 (below_size (zb102)))
       have n4_ := Aside0.mk (blk_below (g := gb264) (o := .cells #[.int .i64 t258, .slice Ao23 t259.length co23] 53 (0, 0)) (zb101) hb)
       have n5_ := Aside0.mk (below_step (zb102) hb)
       have z_BK253 := fun (h0_ : b 23 = false) => (show w34.heap[gb253]? = some (.cells #[.int .i64 0, .slice none 0 0] 53 (0, 0)) from zb103)
       have z_HO276 := fun (h0_ : b 7 = true) => (show Kd.R (Kd.int .i64) 3 w34 w.heap.size (fun _ => True) v275 y274 from by first | exact (Kd.R_elder' (zb108) (Kd.R_base ho35) hb) | exact Kd.R_mono (Kd.R_elder' (zb108) (Kd.R_base ho35) hb) (fun _ h_ => by first | trivial | exact h_ | exact h_.1))
       have z_HI257_e17 := fun (h0_ : b 17 = true) (h1_ : b 20 = false) => (show IsS102 w w34 g257 t254 t288 t289 from zb104)
       have z_HI257_e20 := fun (h0_ : b 20 = true) => (show IsS102 w w34 g257 t254 t294 t295 from zb106)
       have z_BK253_e23 := fun (h0_ : b 23 = true) => (show w34.heap[gb253]? = some (.cells #[.int .i64 t258, .slice Ao23 t259.length co23] 53 (0, 0)) from zb107)
       clear HO261
       clear BK264
       clear HB
       have HO261 := n0_
       have HO292 := n1_
       have BK264 := n4_
       have HB := n5_
       clear n0_ n1_ n4_ n5_
       clear hb ho35
       obtain ⟨Ao36, co36, eo36⟩ := Kd.R_slice HO292.out
       subst eo36
       obtain ⟨ado36, fo36, _⟩ := Kd.at_int (Kd.R_reads' HO292.out).2.2 0 (by decide) (by rw [Ny290.out]; simp)
       cases fo36
       refine hK.out _ _ ⟨v275, adz_v275, .slice (some ado36) y290.length co36, ado36, m10_, m21_, (by rw [ha.out]; exact putSel_upk 11 hb_ rfl rfl rfl), (zb95), z_BK253, (zb101), fun h0_ => absurd ((hon 2 (by kernel_rfl)).symm.trans h0_) (by decide), (zb102), fun _ h1_ => absurd ((hon 4 (by kernel_rfl)).symm.trans h1_) (by decide), fun _ h1_ => absurd ((hon 6 (by kernel_rfl)).symm.trans h1_) (by decide), fun _ h1_ => absurd ((hon 9 (by kernel_rfl)).symm.trans h1_) (by decide), z_HO276, Q_HA_HO276, fun _ h1_ => absurd ((hon 13 (by kernel_rfl)).symm.trans h1_) (by decide), fun _ h1_ => absurd ((hon 15 (by kernel_rfl)).symm.trans h1_) (by decide), fun _ h1_ => absurd ((hon 17 (by kernel_rfl)).symm.trans h1_) (by decide), z_HI257_e17, fun _ => (by (with_reducible repeat (first | apply Kd.R_alloc | apply Kd.R_drewN | apply Kd.R_drew)); exact HO292.out), fun _ => ⟨_, rfl⟩, z_HI257_e20, z_BK253_e23, Q_X10_, fun h0_ => absurd ((hoff 21 (by kernel_rfl)).symm.trans h0_) (by decide)⟩
      refine steps_cons ?_ ?_
      ·rintro b a w' ⟨v275, adz_v275, v291, adz_v291, m10_, m21_, ha, Q_HO261, Q_BK253, Q_BK264, Q_HI257, Q_HB, Q_HI257_e2, Q_HI257_e4, Q_HI257_e6, Q_HO276, Q_HA_HO276, Q_HI257_e9, Q_HI257_e13, Q_HI257_e15, Q_HI257_e17, Q_HO292, Q_HA_HO292, Q_HI257_e20, Q_BK253_e23, Q_X10_, Q_X21_⟩ hb_ hon hoff
       refine ⟨_, rfl, fun K hK => ?_⟩
       have e30 : a.tmps[30]? = some (.pointer (some ⟨g257, 0, none⟩)) := by rw [ha]; exact (putSel_off rfl).trans rfl
       replace ha := Aside0.mk ha
       have HO261 := Aside0.mk Q_HO261
       have BK253 := Aside0.mk (Q_BK253 (hoff 23 (by kernel_rfl)))
       have BK264 := Aside0.mk Q_BK264
       have HB := Aside0.mk Q_HB
       have HI257 := Aside0.mk (Q_HI257_e17 (hon 17 (by kernel_rfl)) hb_)
       refine goes_ Try.func67 (by kernel_rfl) rfl #[.pointer (some ⟨g257, 0, none⟩), .int .i64 5] (by rfl) rfl rfl (by first | (simp only [List.map_toArray, List.map_cons, List.map_nil, Act.eval, Array.getD_eq_getD_getElem?, Option.getD_some, e30]; done) | (simp only [List.map_toArray, List.map_cons, List.map_nil, Act.eval, Array.getD_eq_getD_getElem?, Option.getD_some, e30]; rfl)) ?_
       with_reducible refine (spec_l01Cur_pick.calls g257 t254 t288 t289 5 t293 t294 t295 w _ ?side1 ?side2 A13.out).mono ?_
       (case side1 => exact zb99)
       (case side2 => exact zb100)
       rintro e w34 ⟨rfl, hi, hb, hk⟩
       refine ⟨_, rfl, ?_⟩
       have n0_ := Aside0.mk (KeepBut.blk hk (g' := gb253) (o := .cells #[.int .i64 0, .slice none 0 0] 53 (0, 0)) (zb93) NB253_257.out (by simp))
       have n1_ := Aside0.mk (Kd.R_mono (Kd.R_keep (IsS102.apart (show IsS102 w _ g257 t254 t288 t289 from zb97) (zb95) (by decide)) hk (fun _ h => h.2)) (fun _ h => h.1))
       have n2_ := Aside0.mk (KeepBut.blk hk (g' := gb264) (o := .cells #[.int .i64 t258, .slice Ao23 t259.length co23] 53 (0, 0)) (zb101) NB264_257.out (by simp))
       have n3_ := Aside0.mk (hb)
       have n4_ := Aside0.mk (hi)
       have z_HO276 := fun (h0_ : b 7 = true) => (show Kd.R (Kd.int .i64) 3 w34 w.heap.size (fun _ => True) v275 y274 from by first | exact (Kd.R_mono (Kd.R_keep (IsS102.apart (show IsS102 w _ g257 t254 t288 t289 from zb97) (zb108) (by decide)) hk (fun _ h => h.2)) (fun _ h => h.1)) | exact Kd.R_mono (Kd.R_mono (Kd.R_keep (IsS102.apart (show IsS102 w _ g257 t254 t288 t289 from zb97) (zb108) (by decide)) hk (fun _ h => h.2)) (fun _ h => h.1)) (fun _ h_ => by first | trivial | exact h_ | exact h_.1))
       have z_HO292 := fun (h0_ : b 18 = true) => (show Kd.R (Kd.int .i64) 3 w34 w.heap.size (fun _ => True) v291 y290 from by first | exact (Kd.R_mono (Kd.R_keep (IsS102.apart (show IsS102 w _ g257 t254 t288 t289 from zb97) (zb105) (by decide)) hk (fun _ h => h.2)) (fun _ h => h.1)) | exact Kd.R_mono (Kd.R_mono (Kd.R_keep (IsS102.apart (show IsS102 w _ g257 t254 t288 t289 from zb97) (zb105) (by decide)) hk (fun _ h => h.2)) (fun _ h => h.1)) (fun _ h_ => by first | trivial | exact h_ | exact h_.1))
       clear BK253
       clear HO261
       clear BK264
       clear HB
       clear HI257
       have BK253 := n0_
       have HO261 := n1_
       have BK264 := n2_
       have HB := n3_
       have HI257 := n4_
       clear n0_ n1_ n2_ n3_ n4_
       (try clear hb)
       (try clear hb2)
       (try clear hk)
       (try clear hi)
       refine hK.out _ _ ⟨v275, adz_v275, v291, adz_v291, m10_, m21_, (by rw [ha.out]; exact putSel_upk 12 hb_ rfl rfl rfl), (zb95), fun _ => (zb93), (zb101), fun h0_ => absurd ((hon 2 (by kernel_rfl)).symm.trans h0_) (by decide), (zb98), fun _ h1_ => absurd ((hon 4 (by kernel_rfl)).symm.trans h1_) (by decide), fun _ h1_ => absurd ((hon 6 (by kernel_rfl)).symm.trans h1_) (by decide), fun _ h1_ => absurd ((hon 9 (by kernel_rfl)).symm.trans h1_) (by decide), z_HO276, Q_HA_HO276, fun _ h1_ => absurd ((hon 13 (by kernel_rfl)).symm.trans h1_) (by decide), fun _ h1_ => absurd ((hon 15 (by kernel_rfl)).symm.trans h1_) (by decide), fun _ h1_ => absurd ((hon 17 (by kernel_rfl)).symm.trans h1_) (by decide), fun _ h1_ => absurd ((up_self b 20).symm.trans h1_) (by decide), z_HO292, Q_HA_HO292, fun _ => (zb97), fun h0_ => absurd ((hoff 23 (by kernel_rfl)).symm.trans h0_) (by decide), Q_X10_, fun h0_ => absurd ((hoff 21 (by kernel_rfl)).symm.trans h0_) (by decide)⟩
      refine steps_cons ?_ ?_
      ·rintro b a w' ⟨v275, adz_v275, v291, adz_v291, m10_, m21_, ha, Q_HO261, Q_BK253, Q_BK264, Q_HI257, Q_HB, Q_HI257_e2, Q_HI257_e4, Q_HI257_e6, Q_HO276, Q_HA_HO276, Q_HI257_e9, Q_HI257_e13, Q_HI257_e15, Q_HI257_e17, Q_HO292, Q_HA_HO292, Q_HI257_e20, Q_BK253_e23, Q_X10_, Q_X21_⟩ hb_ hon hoff
       refine ⟨_, rfl, fun K hK => ?_⟩
       have e29 : a.tmps[29]? = some (v291) := by rw [ha]; exact putSel_on (e := (18, 29, v291)) 11 rfl rfl (hon 18 (by kernel_rfl)) rfl
       have e31 : a.tmps[31]? = some (.int .i64 t293) := by rw [ha]; exact putSel_on (e := (20, 31, .int .i64 t293)) 12 rfl rfl (hon 20 (by kernel_rfl)) rfl
       replace ha := Aside0.mk ha
       have HO261 := Aside0.mk Q_HO261
       have BK264 := Aside0.mk Q_BK264
       have HB := Aside0.mk Q_HB
       have HO292 := Aside0.mk (Q_HO292 (hon 18 (by kernel_rfl)))
       have HA_HO292 := Aside0.mk (Q_HA_HO292 (hon 18 (by kernel_rfl)))
       have HI257 := Aside0.mk (Q_HI257_e20 (hon 20 (by kernel_rfl)))
       obtain ⟨c_, hv_⟩ := HA_HO292.out
       rw [hv_] at e29
       refine value_ (w1 := w') (v := .pointer (some (adz_v291.add (t293).toNat))) (by rfl) rfl ?_ ?_
       ·go_simp
        (try simp only [i64_w])
        try rfl
       refine hK.out _ _ ⟨v275, adz_v275, v291, adz_v291, m10_, (.pointer (some (adz_v291.add (t293).toNat))), (by rw [ha.out]; exact putSel_upk 13 hb_ rfl rfl rfl), Q_HO261, Q_BK253, Q_BK264, fun h0_ => absurd ((hon 2 (by kernel_rfl)).symm.trans h0_) (by decide), Q_HB, fun _ h1_ => absurd ((hon 4 (by kernel_rfl)).symm.trans h1_) (by decide), fun _ h1_ => absurd ((hon 6 (by kernel_rfl)).symm.trans h1_) (by decide), fun _ h1_ => absurd ((hon 9 (by kernel_rfl)).symm.trans h1_) (by decide), Q_HO276, Q_HA_HO276, fun _ h1_ => absurd ((hon 13 (by kernel_rfl)).symm.trans h1_) (by decide), fun _ h1_ => absurd ((hon 15 (by kernel_rfl)).symm.trans h1_) (by decide), fun _ h1_ => absurd ((hon 17 (by kernel_rfl)).symm.trans h1_) (by decide), fun _ h1_ => absurd ((hon 20 (by kernel_rfl)).symm.trans h1_) (by decide), Q_HO292, Q_HA_HO292, Q_HI257_e20, Q_BK253_e23, Q_X10_, fun _ => rfl⟩
      refine steps_cons ?_ ?_
      ·rintro b a w' ⟨v275, adz_v275, v291, adz_v291, m10_, m21_, ha, Q_HO261, Q_BK253, Q_BK264, Q_HI257, Q_HB, Q_HI257_e2, Q_HI257_e4, Q_HI257_e6, Q_HO276, Q_HA_HO276, Q_HI257_e9, Q_HI257_e13, Q_HI257_e15, Q_HI257_e17, Q_HO292, Q_HA_HO292, Q_HI257_e20, Q_BK253_e23, Q_X10_, Q_X21_⟩ hb_ hon hoff
       refine ⟨_, rfl, fun K hK => ?_⟩
       have e32 : a.tmps[32]? = some (m21_) := by rw [ha]; exact putSel_on (e := (21, 32, m21_)) 13 rfl rfl (hon 21 (by kernel_rfl)) rfl
       rw [Q_X21_ (hon 21 (by kernel_rfl))] at e32
       replace ha := Aside0.mk ha
       have HO261 := Aside0.mk Q_HO261
       have BK264 := Aside0.mk Q_BK264
       have HB := Aside0.mk Q_HB
       have HO292 := Aside0.mk (Q_HO292 (hon 18 (by kernel_rfl)))
       have HA_HO292 := Aside0.mk (Q_HA_HO292 (hon 18 (by kernel_rfl)))
       have HI257 := Aside0.mk (Q_HI257_e20 (hon 20 (by kernel_rfl)))
       obtain ⟨c_, hv_⟩ := HA_HO292.out
       have hF_ := HO292.out
       rw [hv_] at hF_
       obtain ⟨ad_, ea_, hx_⟩ := Kd.at_int (Kd.R_reads' hF_).2.2 t293 (of_eq_true pi296) (of_eq_true qi296)
       cases ea_
       refine value_ (w1 := w') (v := .int .i64 (rd y290 t293)) (by rfl) rfl ?_ ?_
       ·go_simp
        (try simp only [i64_w])
        try rfl
       refine hK.out _ _ ⟨v275, adz_v275, v291, adz_v291, m10_, m21_, (by rw [ha.out]; exact putSel_upk 14 hb_ rfl rfl rfl), Q_HO261, Q_BK253, Q_BK264, fun h0_ => absurd ((hon 2 (by kernel_rfl)).symm.trans h0_) (by decide), Q_HB, fun _ h1_ => absurd ((hon 4 (by kernel_rfl)).symm.trans h1_) (by decide), fun _ h1_ => absurd ((hon 6 (by kernel_rfl)).symm.trans h1_) (by decide), fun _ h1_ => absurd ((hon 9 (by kernel_rfl)).symm.trans h1_) (by decide), Q_HO276, Q_HA_HO276, fun _ h1_ => absurd ((hon 13 (by kernel_rfl)).symm.trans h1_) (by decide), fun _ h1_ => absurd ((hon 15 (by kernel_rfl)).symm.trans h1_) (by decide), fun _ h1_ => absurd ((hon 17 (by kernel_rfl)).symm.trans h1_) (by decide), fun _ h1_ => absurd ((hon 20 (by kernel_rfl)).symm.trans h1_) (by decide), Q_HO292, Q_HA_HO292, Q_HI257_e20, Q_BK253_e23, Q_X10_, Q_X21_⟩
      refine steps_cons ?_ ?_
      ·rintro b a w' ⟨v275, adz_v275, v291, adz_v291, m10_, m21_, ha, Q_HO261, Q_BK253, Q_BK264, Q_HI257, Q_HB, Q_HI257_e2, Q_HI257_e4, Q_HI257_e6, Q_HO276, Q_HA_HO276, Q_HI257_e9, Q_HI257_e13, Q_HI257_e15, Q_HI257_e17, Q_HO292, Q_HA_HO292, Q_HI257_e20, Q_BK253_e23, Q_X10_, Q_X21_⟩ hb_ hon hoff
       refine ⟨_, rfl, fun K hK => ?_⟩
       have e2 : a.tmps[2]? = some (.pointer (some ⟨gb253, 0, none⟩)) := by rw [ha]; exact (putSel_off rfl).trans rfl
       have e11 : a.tmps[11]? = some (.agg #[.int .i64 t258, .slice Ao23 t259.length co23]) := by rw [ha]; exact putSel_on (e := (0, 11, .agg #[.int .i64 t258, .slice Ao23 t259.length co23])) 0 rfl rfl (hon 0 (by kernel_rfl)) rfl
       replace ha := Aside0.mk ha
       have HO261 := Aside0.mk Q_HO261
       have BK253 := Aside0.mk (Q_BK253 hb_)
       have BK264 := Aside0.mk Q_BK264
       have HB := Aside0.mk Q_HB
       have HI257 := Aside0.mk (Q_HI257_e20 (hon 20 (by kernel_rfl)))
       have hs35 : w'.cell? ⟨gb253, 0, none⟩ = some (.int .i64 0) := (blk_cell BK253.out 0).trans rfl
       have hfs35 := blk_frozen BK253.out 0
       have hns35_1 := NB264_253.out
       have hms35_1 := NB253_264.out
       have hs36 : w'.cell? ⟨gb253, 1, none⟩ = some (.slice none 0 0) := (blk_cell BK253.out 1).trans rfl
       have hfs36 := blk_frozen BK253.out 1
       have hns36_1 := NB264_253.out
       have hms36_1 := NB253_264.out
       refine skip_ (w1 := ?_) (by rfl) rfl ?_ ?_
       rotate_left
       ·go_simp
        rfl
       refine hK.out _ _ ⟨v275, adz_v275, v291, adz_v291, m10_, m21_, (by rw [ha.out]; exact putSel_none (v := undef) rfl), (by (with_reducible repeat (first | apply Kd.R_alloc | apply Kd.R_drewN | apply Kd.R_drew)); exact Kd.R_mono (Kd.R_far (p := ⟨gb253, 1, none⟩) (Kd.R_far (p := ⟨gb253, 0, none⟩) (Kd.R_types HO261.out BK253.out (by decide)) (fun _ hk => hk.2) (.int .i64 t258)) (fun _ hk => hk.2) (.slice Ao23 t259.length co23)) (fun _ hk => trivial)), fun h0_ => absurd ((up_self b 23).symm.trans h0_) (by decide), (by (with_reducible repeat (first | refine blk_drewN ?_ _ | refine blk_drew ?_ | refine blk_alloc ?_ _)); refine blk_far ?_ NB264_253.out _; (with_reducible repeat (first | refine blk_drewN ?_ _ | refine blk_drew ?_ | refine blk_alloc ?_ _)); refine blk_far ?_ NB264_253.out _; (with_reducible repeat (first | refine blk_drewN ?_ _ | refine blk_drew ?_ | refine blk_alloc ?_ _)); exact BK264.out), fun h0_ => absurd ((hon 2 (by kernel_rfl)).symm.trans h0_) (by decide), (zb98), fun _ h1_ => absurd ((hon 4 (by kernel_rfl)).symm.trans h1_) (by decide), fun _ h1_ => absurd ((hon 6 (by kernel_rfl)).symm.trans h1_) (by decide), fun _ h1_ => absurd ((hon 9 (by kernel_rfl)).symm.trans h1_) (by decide), fun h0_ => (by (with_reducible repeat (first | apply Kd.R_alloc | apply Kd.R_drewN | apply Kd.R_drew)); exact Kd.R_mono (Kd.R_far (p := ⟨gb253, 1, none⟩) (Kd.R_far (p := ⟨gb253, 0, none⟩) (Kd.R_types (Q_HO276 h0_) BK253.out (by decide)) (fun _ hk => hk.2) (.int .i64 t258)) (fun _ hk => hk.2) (.slice Ao23 t259.length co23)) (fun _ hk => trivial)), Q_HA_HO276, fun _ h1_ => absurd ((hon 13 (by kernel_rfl)).symm.trans h1_) (by decide), fun _ h1_ => absurd ((hon 15 (by kernel_rfl)).symm.trans h1_) (by decide), fun _ h1_ => absurd ((hon 17 (by kernel_rfl)).symm.trans h1_) (by decide), fun _ h1_ => absurd ((hon 20 (by kernel_rfl)).symm.trans h1_) (by decide), fun h0_ => (by (with_reducible repeat (first | apply Kd.R_alloc | apply Kd.R_drewN | apply Kd.R_drew)); exact Kd.R_mono (Kd.R_far (p := ⟨gb253, 1, none⟩) (Kd.R_far (p := ⟨gb253, 0, none⟩) (Kd.R_types (Q_HO292 h0_) BK253.out (by decide)) (fun _ hk => hk.2) (.int .i64 t258)) (fun _ hk => hk.2) (.slice Ao23 t259.length co23)) (fun _ hk => trivial)), Q_HA_HO292, fun _ => (zb97), fun _ => (by (with_reducible repeat (first | refine blk_drewN ?_ _ | refine blk_drew ?_ | refine blk_alloc ?_ _)); refine blk_put (cs := #[.int .i64 t258, .slice none 0 0]) ?_ 1 _ rfl; (with_reducible repeat (first | refine blk_drewN ?_ _ | refine blk_drew ?_ | refine blk_alloc ?_ _)); refine blk_put (cs := #[.int .i64 0, .slice none 0 0]) ?_ 0 _ rfl; (with_reducible repeat (first | refine blk_drewN ?_ _ | refine blk_drew ?_ | refine blk_alloc ?_ _)); exact BK253.out), Q_X10_, Q_X21_⟩
      refine steps_cons ?_ ?_
      ·rintro b a w' ⟨v275, adz_v275, v291, adz_v291, m10_, m21_, ha, Q_HO261, Q_BK253, Q_BK264, Q_HI257, Q_HB, Q_HI257_e2, Q_HI257_e4, Q_HI257_e6, Q_HO276, Q_HA_HO276, Q_HI257_e9, Q_HI257_e13, Q_HI257_e15, Q_HI257_e17, Q_HO292, Q_HA_HO292, Q_HI257_e20, Q_BK253_e23, Q_X10_, Q_X21_⟩ hb_ hon hoff
       refine ⟨_, rfl, fun K hK => ?_⟩
       have e22 : a.tmps[22]? = some (.int .i64 (rd y274 t277)) := by rw [ha]; exact putSel_on (e := (11, 22, .int .i64 (rd y274 t277))) 7 rfl rfl (hon 11 (by kernel_rfl)) rfl
       replace ha := Aside0.mk ha
       have HO261 := Aside0.mk Q_HO261
       have BK264 := Aside0.mk Q_BK264
       have HB := Aside0.mk Q_HB
       have HO276 := Aside0.mk (Q_HO276 (hon 7 (by kernel_rfl)))
       have HA_HO276 := Aside0.mk (Q_HA_HO276 (hon 7 (by kernel_rfl)))
       have HI257 := Aside0.mk (Q_HI257_e20 (hon 20 (by kernel_rfl)))
       have BK253 := Aside0.mk (Q_BK253_e23 (hon 23 (by kernel_rfl)))
       refine value_ (w1 := w') (v := .int .i64 (rd y274 t277)) (by rfl) rfl ?_ ?_
       ·go_simp
        (try simp only [i64_w])
        try rfl
       refine hK.out _ _ ⟨v275, adz_v275, v291, adz_v291, m10_, m21_, (by rw [ha.out]; exact putSel_upk 15 hb_ rfl rfl rfl), Q_HO261, fun h0_ => absurd ((hon 23 (by kernel_rfl)).symm.trans h0_) (by decide), Q_BK264, fun h0_ => absurd ((hon 2 (by kernel_rfl)).symm.trans h0_) (by decide), Q_HB, fun _ h1_ => absurd ((hon 4 (by kernel_rfl)).symm.trans h1_) (by decide), fun _ h1_ => absurd ((hon 6 (by kernel_rfl)).symm.trans h1_) (by decide), fun _ h1_ => absurd ((hon 9 (by kernel_rfl)).symm.trans h1_) (by decide), Q_HO276, Q_HA_HO276, fun _ h1_ => absurd ((hon 13 (by kernel_rfl)).symm.trans h1_) (by decide), fun _ h1_ => absurd ((hon 15 (by kernel_rfl)).symm.trans h1_) (by decide), fun _ h1_ => absurd ((hon 17 (by kernel_rfl)).symm.trans h1_) (by decide), fun _ h1_ => absurd ((hon 20 (by kernel_rfl)).symm.trans h1_) (by decide), Q_HO292, Q_HA_HO292, Q_HI257_e20, Q_BK253_e23, Q_X10_, Q_X21_⟩
      refine steps_cons ?_ ?_
      ·rintro b a w' ⟨v275, adz_v275, v291, adz_v291, m10_, m21_, ha, Q_HO261, Q_BK253, Q_BK264, Q_HI257, Q_HB, Q_HI257_e2, Q_HI257_e4, Q_HI257_e6, Q_HO276, Q_HA_HO276, Q_HI257_e9, Q_HI257_e13, Q_HI257_e15, Q_HI257_e17, Q_HO292, Q_HA_HO292, Q_HI257_e20, Q_BK253_e23, Q_X10_, Q_X21_⟩ hb_ hon hoff
       refine ⟨_, rfl, fun K hK => ?_⟩
       have e33 : a.tmps[33]? = some (.int .i64 (rd y290 t293)) := by rw [ha]; exact putSel_on (e := (22, 33, .int .i64 (rd y290 t293))) 14 rfl rfl (hon 22 (by kernel_rfl)) rfl
       replace ha := Aside0.mk ha
       have HO261 := Aside0.mk Q_HO261
       have BK264 := Aside0.mk Q_BK264
       have HB := Aside0.mk Q_HB
       have HO276 := Aside0.mk (Q_HO276 (hon 7 (by kernel_rfl)))
       have HA_HO276 := Aside0.mk (Q_HA_HO276 (hon 7 (by kernel_rfl)))
       have HO292 := Aside0.mk (Q_HO292 (hon 18 (by kernel_rfl)))
       have HA_HO292 := Aside0.mk (Q_HA_HO292 (hon 18 (by kernel_rfl)))
       have HI257 := Aside0.mk (Q_HI257_e20 (hon 20 (by kernel_rfl)))
       have BK253 := Aside0.mk (Q_BK253_e23 (hon 23 (by kernel_rfl)))
       refine value_ (w1 := w') (v := .int .i64 (rd y290 t293)) (by rfl) rfl ?_ ?_
       ·go_simp
        (try simp only [i64_w])
        try rfl
       refine hK.out _ _ ⟨v275, adz_v275, v291, adz_v291, m10_, m21_, (by rw [ha.out]; exact putSel_upk 16 hb_ rfl rfl rfl), Q_HO261, fun h0_ => absurd ((hon 23 (by kernel_rfl)).symm.trans h0_) (by decide), Q_BK264, fun h0_ => absurd ((hon 2 (by kernel_rfl)).symm.trans h0_) (by decide), Q_HB, fun _ h1_ => absurd ((hon 4 (by kernel_rfl)).symm.trans h1_) (by decide), fun _ h1_ => absurd ((hon 6 (by kernel_rfl)).symm.trans h1_) (by decide), fun _ h1_ => absurd ((hon 9 (by kernel_rfl)).symm.trans h1_) (by decide), Q_HO276, Q_HA_HO276, fun _ h1_ => absurd ((hon 13 (by kernel_rfl)).symm.trans h1_) (by decide), fun _ h1_ => absurd ((hon 15 (by kernel_rfl)).symm.trans h1_) (by decide), fun _ h1_ => absurd ((hon 17 (by kernel_rfl)).symm.trans h1_) (by decide), fun _ h1_ => absurd ((hon 20 (by kernel_rfl)).symm.trans h1_) (by decide), Q_HO292, Q_HA_HO292, Q_HI257_e20, Q_BK253_e23, Q_X10_, Q_X21_⟩
      exact steps_nil
     rintro b a w42 hall ⟨v275, adz_v275, v291, adz_v291, m10_, m21_, ha, Q_HO261, Q_BK253, Q_BK264, Q_HI257, Q_HB, Q_HI257_e2, Q_HI257_e4, Q_HI257_e6, Q_HO276, Q_HA_HO276, Q_HI257_e9, Q_HI257_e13, Q_HI257_e15, Q_HI257_e17, Q_HO292, Q_HA_HO292, Q_HI257_e20, Q_BK253_e23, Q_X10_, Q_X21_⟩
     clear BK253 BK264 HB HI257 HO261
     have hb0_ := hall 0 (by kernel_rfl)
     have hb2_ := hall 2 (by kernel_rfl)
     have hb4_ := hall 4 (by kernel_rfl)
     have hb6_ := hall 6 (by kernel_rfl)
     have hb7_ := hall 7 (by kernel_rfl)
     have hb9_ := hall 9 (by kernel_rfl)
     have hb10_ := hall 10 (by kernel_rfl)
     have hb11_ := hall 11 (by kernel_rfl)
     have hb13_ := hall 13 (by kernel_rfl)
     have hb15_ := hall 15 (by kernel_rfl)
     have hb17_ := hall 17 (by kernel_rfl)
     have hb18_ := hall 18 (by kernel_rfl)
     have hb20_ := hall 20 (by kernel_rfl)
     have hb21_ := hall 21 (by kernel_rfl)
     have hb22_ := hall 22 (by kernel_rfl)
     have hb23_ := hall 23 (by kernel_rfl)
     have hb24_ := hall 24 (by kernel_rfl)
     have hb25_ := hall 25 (by kernel_rfl)
     subst ha
     obtain rfl := Q_X10_ hb10_
     obtain rfl := Q_X21_ hb21_
     simp only [putSel, hb0_, hb2_, hb4_, hb6_, hb7_, hb9_, hb10_, hb11_, hb13_, hb15_, hb17_, hb18_, hb20_, hb21_, hb22_, hb23_, hb24_, hb25_, if_true, Act.put, List.setIfInBounds_toArray, List.set_cons_zero, List.set_cons_succ]
     have HO261 := Aside0.mk Q_HO261
     clear Q_HO261
     clear Q_BK253
     have BK264 := Aside0.mk Q_BK264
     clear Q_BK264
     clear Q_HI257
     have HB := Aside0.mk Q_HB
     clear Q_HB
     clear Q_HI257_e2
     clear Q_HI257_e4
     clear Q_HI257_e6
     have HO276 := Aside0.mk (Q_HO276 hb7_)
     clear Q_HO276
     have HA_HO276 := Aside0.mk (Q_HA_HO276 hb7_)
     clear Q_HA_HO276
     clear Q_HI257_e9
     clear Q_HI257_e13
     clear Q_HI257_e15
     clear Q_HI257_e17
     have HO292 := Aside0.mk (Q_HO292 hb18_)
     clear Q_HO292
     have HA_HO292 := Aside0.mk (Q_HA_HO292 hb18_)
     clear Q_HA_HO292
     have HI257 := Aside0.mk (Q_HI257_e20 hb20_)
     clear Q_HI257_e20
     have BK253 := Aside0.mk (Q_BK253_e23 hb23_)
     clear Q_BK253_e23
     clear hall hb0_ hb2_ hb4_ hb6_ hb7_ hb9_ hb10_ hb11_ hb13_ hb15_ hb17_ hb18_ hb20_ hb21_ hb22_ hb23_ hb24_ hb25_
     obtain ⟨co43, eo43⟩ := HA_HO276.out
     clear HA_HO276
     subst eo43
     obtain ⟨co44, eo44⟩ := HA_HO292.out
     clear HA_HO292
     subst eo44
     try go_wp2
     refine bodyPost_ret (results_ctt rfl _ _ gb253 53 #[.int .i64 t258, .slice Ao23 t259.length co23] (0, 0) _ rfl (zb93) Try.underlying53 rfl (by kernel_rfl)) rfl ?_
     exact ⟨_, zb5, zb95, zb98⟩
    ·rw [if_neg c15] at H
     exact absurd H (by simp)
   ·rw [if_neg c14] at H
    exact absurd H (by simp)
  ·rw [if_neg c9] at H
   exact absurd H (by simp)
 ·rw [if_neg c8] at H
  exact absurd H (by simp)

/-! ### impl_in: function 49 -/
def impl_in.f (a0 : Int) (a1 : Int) (a2 : Int) : Option (Bool) := if a1 ≤ a0 then (some (decide (a0 ≤ a2))) else (some false)
set_option maxHeartbeats 8000000 in
set_option maxRecDepth 100000 in
theorem impl_in.calls (a0 : Int) (a1 : Int) (a2 : Int) (r : Bool) (w : World) (h : impl_in.f a0 a1 a2 = some r) :
  Calls Try.prog 49 #[.int .i64 a0, .int .i64 a1, .int .i64 a2] w fun e w' => e = .returned (.bool r) ∧ Drawn0 w w' := by
 have H : (if a1 ≤ a0 then (some (decide (a0 ≤ a2))) else (some false)) = some r := h
 clear h
 by_cases c4 : a1 ≤ a0
 ·rw [if_pos c4] at H
  have c4b0 : decide (a1 ≤ a0) = true := decide_eq_true c4
  clear c4
  obtain rfl := Option.some.inj H
  go_enter Try.func49, Try.ntmps49
  go_wp2
  go_ret
  exact ⟨zb1, zb2⟩
 ·rw [if_neg c4] at H
  have c4b0 : decide (a1 ≤ a0) = false := decide_eq_false c4
  clear c4
  obtain rfl := Option.some.inj H
  go_enter Try.func49, Try.ntmps49
  go_wp2
  go_ret
  exact ⟨zb1, zb2⟩

/-! ### impl_isTime: function 53 -/
def impl_isTime.f (a0 : Int) : Option (Bool) := (impl_in.f a0 0 1000).bind fun t297 => (some t297)
set_option maxHeartbeats 8000000 in
set_option maxRecDepth 100000 in
theorem impl_isTime.calls (a0 : Int) (r : Bool) (w : World) (h : impl_isTime.f a0 = some r) :
  Calls Try.prog 53 #[.int .i64 a0] w fun e w' => e = .returned (.bool r) ∧ Drawn0 w w' := by
 have H : ((impl_in.f a0 0 1000).bind fun t297 => (some t297)) = some r := h
 clear h
 replace H := Option.bind_eq_some_iff.mp H
 obtain ⟨t297, A20, H⟩ := H
 replace H : (some t297) = some r := H
 have A2 := Aside0.mk A20
 clear A20
 obtain rfl := Option.some.inj H
 go_enter Try.func53, Try.ntmps53
 go_wp2_with (first | ((with_reducible refine gate_callee (f := 49) rfl ?_); refine goesL_ (some 4) rfl rfl Try.func49 (by kernel_rfl) rfl #[.int .i64 a0, .int .i64 0, .int .i64 1000] rfl (zb10) ?_; (with_reducible refine (impl_in.calls a0 0 1000 t297 _ A2.out).mono ?_); rintro e w' ⟨rfl, ⟨nd, rfl⟩⟩; refine ⟨_, rfl, ?_⟩))
 go_ret
 exact ⟨zb1, zb2⟩

end Go.Proofs.Ytahnodgbfonlhaa.PFnMarks
