/- Contracts of the functions that the law FnSessions reaches, part 12: each says that the call returns what the Lean function of the same name computes. Made from a generated text by a program of this session. -/
import Derived.Test.YtkikbhcicpkhgaaQFnSessionsx0
import Derived.Test.YtkikbhcicpkhgaaQFnSessionsx2
import Derived.Test.YtkikbhcicpkhgaaQFnSessionsx4
import Derived.Test.YtkikbhcicpkhgaaQFnSessionsx7
import Derived.Test.YtkikbhcicpkhgaaQFnSessionsx9
import Derived.Test.YtkikbhcicpkhgaaQFnSessionsx11
namespace Go.Proofs.Ytkikbhcicpkhgaa.PFnSessions
open Go.RowKit Go.Proofs.YtkikbhcicpkhgaaW.PrintWords Go.Proofs.YtkikbhcicpkhgaaW.PrintLast Go.Proofs.YtkikbhcicpkhgaaW.PrintMore
attribute [local go_sem] max2_int min2_int max_two min_two max_three min_three max_four min_four   -- for this text's walks alone
set_option linter.unusedVariables false
set_option linter.unusedSimpArgs false

/-! ### laws_FnSessions: function 6 -/
mutual
def laws_FnSessions.j0 : Nat → List Int → List Int → List (S105) → Bool → List (S105) → Bool → Bool → Int → Int → Int → Option (Bool)
 | 0, _, _, _, _, _, _, _, _, _, _ => none
 | k + 1, x0, x4, x5, x6, x7, x8, x52, x413000, x413001, x413002 => if x52 = true then (if (x8 == x6) = true then ((laws_sameWins.f k x7 x5).bind fun t422 => (some t422)) else (some false)) else (laws_FnSessions.l0 k x0 x4 x7 (([] : List Int)) (wrap64 ((x4.length : Int) - 1)) x413000 x413001 x413002)
def laws_FnSessions.l0 : Nat → List Int → List Int → List (S105) → List Int → Int → Int → Int → Int → Option (Bool)
 | 0, _, _, _, _, _, _, _, _ => none
 | k + 1, x0, x4, x7, x9, x10, x413000, x413001, x413002 => if x10 ≥ 0 then (if 0 ≤ x10 then (if x10 < (x4.length : Int) then (if x9.length < 17592186044416 then (laws_FnSessions.l0 k x0 x4 x7 (x9 ++ [rd x4 x10]) (wrap64 (x10 - 1)) x413000 x413001 x413002) else (none)) else (none)) else (none)) else ((impl_SessOf.f k x413000 x413001 x413002 x9).bind fun bt430 => ((laws_pick.f k x0 3 (wrap64 ((x4.length : Int) + 1))).bind fun t434 => (if 0 ≤ t434 then (if t434 ≤ (x4.length : Int) then ((impl_SessOf.f k x413000 x413001 x413002 (x4.take (t434 : Int).toNat)).bind fun bt439 => ((impl_SessOf.f k x413000 x413001 x413002 (x4.drop (t434 : Int).toNat)).bind fun bt447 => ((impl_SessJoin.f k bt439.1 bt447.1).bind fun bt451 => (laws_FnSessions.l1 k x4 x7 bt430.1 bt430.2 bt439.2 bt447.2 bt451.1 bt451.2 0)))) else (none)) else (none))))
def laws_FnSessions.l1 : Nat → List Int → List (S105) → List (S105) → Bool → Bool → Bool → List (S105) → Bool → Int → Option (Bool)
 | 0, _, _, _, _, _, _, _, _, _ => none
 | k + 1, x4, x7, x11, x12, x15, x17, x18, x19, x20 => if x20 < (x4.length : Int) then (if 0 ≤ x20 then ((impl_SessAt.f k x7 (rd x4 x20)).bind fun t456 => (if t456 < 0 then (some false) else (laws_FnSessions.l1 k x4 x7 x11 x12 x15 x17 x18 x19 (wrap64 (x20 + 1))))) else (none)) else (if x12 = true then (if x15 = true then (if x17 = true then (if x19 = true then ((laws_sameWins.f k x11 x7).bind fun t457 => (if t457 = true then ((laws_sameWins.f k x18 x7).bind fun t458 => (if t458 = true then ((impl_SessOk.f k x7).bind fun t459 => (some t459)) else (some false))) else (some false))) else (some false)) else (some false)) else (some false)) else (some false))
end
def laws_FnSessions.f (k : Nat) (l0 : List Int) : Option (Bool) := (laws_big.f l0).bind fun t405 => (if t405 = true then (some true) else ((spec_DrawSessOf.f k l0).bind fun bt406 => ((spec_SessOf.f k bt406.1 bt406.2.1 bt406.2.2.1 bt406.2.2.2).bind fun bt413 => ((impl_SessOf.f k bt406.1 bt406.2.1 bt406.2.2.1 bt406.2.2.2).bind fun bt417 => (if (bt417.2 != bt413.2) = true then (laws_FnSessions.j0 k l0 bt406.2.2.2 bt413.1 bt413.2 bt417.1 bt417.2 true bt406.1 bt406.2.1 bt406.2.2.1) else ((laws_sameWins.f k bt417.1 bt413.1).bind fun t421 => (if t421 = true then (laws_FnSessions.j0 k l0 bt406.2.2.2 bt413.1 bt413.2 bt417.1 bt417.2 (!bt417.2) bt406.1 bt406.2.1 bt406.2.2.1) else (laws_FnSessions.j0 k l0 bt406.2.2.2 bt413.1 bt413.2 bt417.1 bt417.2 true bt406.1 bt406.2.1 bt406.2.2.1))))))))
theorem laws_FnSessions.mono_l : ∀ k, (∀ y0 y1 y2 y3 y4 y5 y6 y7 y8 y9, LeO (laws_FnSessions.j0 k y0 y1 y2 y3 y4 y5 y6 y7 y8 y9) (laws_FnSessions.j0 (k + 1) y0 y1 y2 y3 y4 y5 y6 y7 y8 y9)) ∧ (∀ y0 y1 y2 y3 y4 y5 y6 y7, LeO (laws_FnSessions.l0 k y0 y1 y2 y3 y4 y5 y6 y7) (laws_FnSessions.l0 (k + 1) y0 y1 y2 y3 y4 y5 y6 y7)) ∧ (∀ y0 y1 y2 y3 y4 y5 y6 y7 y8, LeO (laws_FnSessions.l1 k y0 y1 y2 y3 y4 y5 y6 y7 y8) (laws_FnSessions.l1 (k + 1) y0 y1 y2 y3 y4 y5 y6 y7 y8))
 | 0 => ⟨fun _ _ _ _ _ _ _ _ _ _ r h => by simp [laws_FnSessions.j0] at h, fun _ _ _ _ _ _ _ _ r h => by simp [laws_FnSessions.l0] at h, fun _ _ _ _ _ _ _ _ _ r h => by simp [laws_FnSessions.l1] at h⟩
 | k + 1 => by
  obtain ⟨ih0, ih1, ih2⟩ := laws_FnSessions.mono_l k
  refine ⟨?_, ?_, ?_⟩
  ·intro y0 y1 y2 y3 y4 y5 y6 y7 y8 y9
   unfold laws_FnSessions.j0
   repeat' first
   | (with_reducible exact ih0 _ _ _ _ _ _ _ _ _ _)
   | (with_reducible exact ih1 _ _ _ _ _ _ _ _)
   | (with_reducible exact ih2 _ _ _ _ _ _ _ _ _)
   | (with_reducible exact impl_SessAt.mono _ _ _)
   | (with_reducible exact impl_SessJoin.mono _ _ _)
   | (with_reducible exact impl_SessOf.mono _ _ _ _ _)
   | (with_reducible exact impl_SessOk.mono _ _)
   | (with_reducible exact laws_pick.mono _ _ _ _)
   | (with_reducible exact laws_sameWins.mono _ _ _)
   | (with_reducible exact spec_DrawSessOf.mono _ _)
   | (with_reducible exact spec_SessOf.mono _ _ _ _ _)
   | (with_reducible exact LeO.refl _)
   | (with_reducible exact LeO.none _)
   | (with_reducible refine LeO.ite ?_ ?_)
   | (with_reducible refine LeO.bind ?_ (fun _ => ?_))
   | exact ih0 _ _ _ _ _ _ _ _ _ _
   | exact ih1 _ _ _ _ _ _ _ _
   | exact ih2 _ _ _ _ _ _ _ _ _
   | exact impl_SessAt.mono _ _ _
   | exact impl_SessJoin.mono _ _ _
   | exact impl_SessOf.mono _ _ _ _ _
   | exact impl_SessOk.mono _ _
   | exact laws_pick.mono _ _ _ _
   | exact laws_sameWins.mono _ _ _
   | exact spec_DrawSessOf.mono _ _
   | exact spec_SessOf.mono _ _ _ _ _
   | exact LeO.none _
   | refine LeO.ite ?_ ?_
   | refine LeO.bind ?_ (fun _ => ?_)
  ·intro y0 y1 y2 y3 y4 y5 y6 y7
   unfold laws_FnSessions.l0
   repeat' first
   | (with_reducible exact ih0 _ _ _ _ _ _ _ _ _ _)
   | (with_reducible exact ih1 _ _ _ _ _ _ _ _)
   | (with_reducible exact ih2 _ _ _ _ _ _ _ _ _)
   | (with_reducible exact impl_SessAt.mono _ _ _)
   | (with_reducible exact impl_SessJoin.mono _ _ _)
   | (with_reducible exact impl_SessOf.mono _ _ _ _ _)
   | (with_reducible exact impl_SessOk.mono _ _)
   | (with_reducible exact laws_pick.mono _ _ _ _)
   | (with_reducible exact laws_sameWins.mono _ _ _)
   | (with_reducible exact spec_DrawSessOf.mono _ _)
   | (with_reducible exact spec_SessOf.mono _ _ _ _ _)
   | (with_reducible exact LeO.refl _)
   | (with_reducible exact LeO.none _)
   | (with_reducible refine LeO.ite ?_ ?_)
   | (with_reducible refine LeO.bind ?_ (fun _ => ?_))
   | exact ih0 _ _ _ _ _ _ _ _ _ _
   | exact ih1 _ _ _ _ _ _ _ _
   | exact ih2 _ _ _ _ _ _ _ _ _
   | exact impl_SessAt.mono _ _ _
   | exact impl_SessJoin.mono _ _ _
   | exact impl_SessOf.mono _ _ _ _ _
   | exact impl_SessOk.mono _ _
   | exact laws_pick.mono _ _ _ _
   | exact laws_sameWins.mono _ _ _
   | exact spec_DrawSessOf.mono _ _
   | exact spec_SessOf.mono _ _ _ _ _
   | exact LeO.none _
   | refine LeO.ite ?_ ?_
   | refine LeO.bind ?_ (fun _ => ?_)
  ·intro y0 y1 y2 y3 y4 y5 y6 y7 y8
   unfold laws_FnSessions.l1
   repeat' first
   | (with_reducible exact ih0 _ _ _ _ _ _ _ _ _ _)
   | (with_reducible exact ih1 _ _ _ _ _ _ _ _)
   | (with_reducible exact ih2 _ _ _ _ _ _ _ _ _)
   | (with_reducible exact impl_SessAt.mono _ _ _)
   | (with_reducible exact impl_SessJoin.mono _ _ _)
   | (with_reducible exact impl_SessOf.mono _ _ _ _ _)
   | (with_reducible exact impl_SessOk.mono _ _)
   | (with_reducible exact laws_pick.mono _ _ _ _)
   | (with_reducible exact laws_sameWins.mono _ _ _)
   | (with_reducible exact spec_DrawSessOf.mono _ _)
   | (with_reducible exact spec_SessOf.mono _ _ _ _ _)
   | (with_reducible exact LeO.refl _)
   | (with_reducible exact LeO.none _)
   | (with_reducible refine LeO.ite ?_ ?_)
   | (with_reducible refine LeO.bind ?_ (fun _ => ?_))
   | exact ih0 _ _ _ _ _ _ _ _ _ _
   | exact ih1 _ _ _ _ _ _ _ _
   | exact ih2 _ _ _ _ _ _ _ _ _
   | exact impl_SessAt.mono _ _ _
   | exact impl_SessJoin.mono _ _ _
   | exact impl_SessOf.mono _ _ _ _ _
   | exact impl_SessOk.mono _ _
   | exact laws_pick.mono _ _ _ _
   | exact laws_sameWins.mono _ _ _
   | exact spec_DrawSessOf.mono _ _
   | exact spec_SessOf.mono _ _ _ _ _
   | exact LeO.none _
   | refine LeO.ite ?_ ?_
   | refine LeO.bind ?_ (fun _ => ?_)
theorem laws_FnSessions.mono : ∀ a0 k, LeO (laws_FnSessions.f k a0) (laws_FnSessions.f (k + 1) a0) := by
 intro a0 k
 obtain ⟨ih0, ih1, ih2⟩ := laws_FnSessions.mono_l k
 unfold laws_FnSessions.f
 repeat' first
   | (with_reducible exact ih0 _ _ _ _ _ _ _ _ _ _)
   | (with_reducible exact ih1 _ _ _ _ _ _ _ _)
   | (with_reducible exact ih2 _ _ _ _ _ _ _ _ _)
   | (with_reducible exact impl_SessAt.mono _ _ _)
   | (with_reducible exact impl_SessJoin.mono _ _ _)
   | (with_reducible exact impl_SessOf.mono _ _ _ _ _)
   | (with_reducible exact impl_SessOk.mono _ _)
   | (with_reducible exact laws_pick.mono _ _ _ _)
   | (with_reducible exact laws_sameWins.mono _ _ _)
   | (with_reducible exact spec_DrawSessOf.mono _ _)
   | (with_reducible exact spec_SessOf.mono _ _ _ _ _)
   | (with_reducible exact LeO.refl _)
   | (with_reducible exact LeO.none _)
   | (with_reducible refine LeO.ite ?_ ?_)
   | (with_reducible refine LeO.bind ?_ (fun _ => ?_))
   | exact ih0 _ _ _ _ _ _ _ _ _ _
   | exact ih1 _ _ _ _ _ _ _ _
   | exact ih2 _ _ _ _ _ _ _ _ _
   | exact impl_SessAt.mono _ _ _
   | exact impl_SessJoin.mono _ _ _
   | exact impl_SessOf.mono _ _ _ _ _
   | exact impl_SessOk.mono _ _
   | exact laws_pick.mono _ _ _ _
   | exact laws_sameWins.mono _ _ _
   | exact spec_DrawSessOf.mono _ _
   | exact spec_SessOf.mono _ _ _ _ _
   | exact LeO.none _
   | refine LeO.ite ?_ ?_
   | refine LeO.bind ?_ (fun _ => ?_)
def laws_FnSessions.T15 : Bool × List (List Nat × List Nat) := (true, [([], []), ([], []), ([], []), ([1, 2], [1, 2]), ([0, 3], [0, 3]), ([4], [4]), ([5], [5]), ([5], [5]), ([6, 4, 0, 1, 2, 3, 4, 5, 6], [6]), ([7, 8, 0, 1, 2, 3, 4, 5, 6, 7, 8], [7])])
def laws_FnSessions.B15 : List Nat := [0, 0, 0, 6, 15, 31, 63, 63, 127, 511]
theorem laws_FnSessions.tab15 : rtab .any (opsOf Try.f6 15) = laws_FnSessions.T15 := by kernel_rfl
theorem laws_FnSessions.bits15 : waitsOk laws_FnSessions.T15.2 laws_FnSessions.B15 = true := by kernel_rfl
def laws_FnSessions.T16 : Bool × List (List Nat × List Nat) := (true, [([], []), ([], []), ([], []), ([1, 2], [1, 2]), ([0, 3], [0, 3]), ([4], [4]), ([5], [5]), ([5], [5]), ([6, 4, 0, 1, 2, 3, 4, 5, 6], [6]), ([7, 8, 0, 1, 2, 3, 4, 5, 6, 7, 8], [7])])
def laws_FnSessions.B16 : List Nat := [0, 0, 0, 6, 15, 31, 63, 63, 127, 511]
theorem laws_FnSessions.tab16 : rtab .any (opsOf Try.f6 16) = laws_FnSessions.T16 := by kernel_rfl
theorem laws_FnSessions.bits16 : waitsOk laws_FnSessions.T16.2 laws_FnSessions.B16 = true := by kernel_rfl
set_option maxHeartbeats 8000000 in
set_option maxRecDepth 100000 in
theorem laws_FnSessions.calls (k : Nat) (A0 : Option Addr) (c0 : Nat) (l0 : List Int) (r : Bool) (w : World) (hr0 : Kd.C (Kd.int .u8) w A0 l0.length l0) (hc0 : l0.length ≤ c0) (h : laws_FnSessions.f k l0 = some r) :
  Calls Try.prog 6 #[.slice A0 l0.length c0] w fun e w' => e = .returned (.bool r) ∧ Below w.heap.size w w' := by
 have hu48 := Try.underlying48
 have HR0 := Aside0.mk hr0
 have HC0 := Aside0.mk hc0
 clear hr0 hc0
 have HB := Aside0.mk (Below.refl w.heap.size w)
 have H : ((laws_big.f l0).bind fun t405 => (if t405 = true then (some true) else ((spec_DrawSessOf.f k l0).bind fun bt406 => ((spec_SessOf.f k bt406.1 bt406.2.1 bt406.2.2.1 bt406.2.2.2).bind fun bt413 => ((impl_SessOf.f k bt406.1 bt406.2.1 bt406.2.2.1 bt406.2.2.2).bind fun bt417 => (if (bt417.2 != bt413.2) = true then (laws_FnSessions.j0 k l0 bt406.2.2.2 bt413.1 bt413.2 bt417.1 bt417.2 true bt406.1 bt406.2.1 bt406.2.2.1) else ((laws_sameWins.f k bt417.1 bt413.1).bind fun t421 => (if t421 = true then (laws_FnSessions.j0 k l0 bt406.2.2.2 bt413.1 bt413.2 bt417.1 bt417.2 (!bt417.2) bt406.1 bt406.2.1 bt406.2.2.1) else (laws_FnSessions.j0 k l0 bt406.2.2.2 bt413.1 bt413.2 bt417.1 bt417.2 true bt406.1 bt406.2.1 bt406.2.2.1))))))))) = some r := h
 clear h
 replace H := Option.bind_eq_some_iff.mp H
 obtain ⟨t405, A20, H⟩ := H
 replace H : (if t405 = true then (some true) else ((spec_DrawSessOf.f k l0).bind fun bt406 => ((spec_SessOf.f k bt406.1 bt406.2.1 bt406.2.2.1 bt406.2.2.2).bind fun bt413 => ((impl_SessOf.f k bt406.1 bt406.2.1 bt406.2.2.1 bt406.2.2.2).bind fun bt417 => (if (bt417.2 != bt413.2) = true then (laws_FnSessions.j0 k l0 bt406.2.2.2 bt413.1 bt413.2 bt417.1 bt417.2 true bt406.1 bt406.2.1 bt406.2.2.1) else ((laws_sameWins.f k bt417.1 bt413.1).bind fun t421 => (if t421 = true then (laws_FnSessions.j0 k l0 bt406.2.2.2 bt413.1 bt413.2 bt417.1 bt417.2 (!bt417.2) bt406.1 bt406.2.1 bt406.2.2.1) else (laws_FnSessions.j0 k l0 bt406.2.2.2 bt413.1 bt413.2 bt417.1 bt417.2 true bt406.1 bt406.2.1 bt406.2.2.1)))))))) = some r := H
 have A2 := Aside0.mk A20
 clear A20
 by_cases c3 : t405 = true
 ·subst c3
  have H1 : (some true) = some r := by rw [if_pos rfl] at H; exact H
  clear H
  have H := H1
  clear H1
  obtain rfl := Option.some.inj H
  go_enter Try.func6, Try.ntmps6
  go_wp2_with (first | ((with_reducible refine gate_callee (f := 8) rfl ?_); refine goesL_ (some 22) rfl rfl Try.func8 (by kernel_rfl) rfl #[.slice A0 l0.length c0] rfl (zb10) ?_; (with_reducible refine (laws_big.calls _ _ l0 true _ ?side1 ?side2 A2.out).mono ?_); (case side1 => repeat (first | exact HR0.out | (with_reducible refine Kd.C_alloc ?_ _) | (with_reducible refine Kd.C_drewN ?_ _) | (with_reducible refine Kd.C_drew ?_))); (case side2 => exact HC0.out); rintro e w' ⟨rfl, ⟨nd, rfl⟩⟩; refine ⟨_, rfl, ?_⟩))
  go_ret
  exact ⟨zb5, zb3⟩
 ·replace c3 := Bool.eq_false_iff.mpr c3
  subst c3
  have H1 : ((spec_DrawSessOf.f k l0).bind fun bt406 => ((spec_SessOf.f k bt406.1 bt406.2.1 bt406.2.2.1 bt406.2.2.2).bind fun bt413 => ((impl_SessOf.f k bt406.1 bt406.2.1 bt406.2.2.1 bt406.2.2.2).bind fun bt417 => (if (bt417.2 != bt413.2) = true then (laws_FnSessions.j0 k l0 bt406.2.2.2 bt413.1 bt413.2 bt417.1 bt417.2 true bt406.1 bt406.2.1 bt406.2.2.1) else ((laws_sameWins.f k bt417.1 bt413.1).bind fun t421 => (if t421 = true then (laws_FnSessions.j0 k l0 bt406.2.2.2 bt413.1 bt413.2 bt417.1 bt417.2 (!bt417.2) bt406.1 bt406.2.1 bt406.2.2.1) else (laws_FnSessions.j0 k l0 bt406.2.2.2 bt413.1 bt413.2 bt417.1 bt417.2 true bt406.1 bt406.2.1 bt406.2.2.1))))))) = some r := by rw [if_neg (show ¬ (false = true) by decide)] at H; exact H
  clear H
  have H := H1
  clear H1
  replace H := Option.bind_eq_some_iff.mp H
  obtain ⟨⟨t406, t407, t408, t409⟩, A40, H⟩ := H
  replace H : ((spec_SessOf.f k t406 t407 t408 t409).bind fun bt413 => ((impl_SessOf.f k t406 t407 t408 t409).bind fun bt417 => (if (bt417.2 != bt413.2) = true then (laws_FnSessions.j0 k l0 t409 bt413.1 bt413.2 bt417.1 bt417.2 true t406 t407 t408) else ((laws_sameWins.f k bt417.1 bt413.1).bind fun t421 => (if t421 = true then (laws_FnSessions.j0 k l0 t409 bt413.1 bt413.2 bt417.1 bt417.2 (!bt417.2) t406 t407 t408) else (laws_FnSessions.j0 k l0 t409 bt413.1 bt413.2 bt417.1 bt417.2 true t406 t407 t408)))))) = some r := H
  have A4 := Aside0.mk A40
  clear A40
  replace H := Option.bind_eq_some_iff.mp H
  obtain ⟨⟨t413, t416⟩, A50, H⟩ := H
  replace H : ((impl_SessOf.f k t406 t407 t408 t409).bind fun bt417 => (if (bt417.2 != t416) = true then (laws_FnSessions.j0 k l0 t409 t413 t416 bt417.1 bt417.2 true t406 t407 t408) else ((laws_sameWins.f k bt417.1 t413).bind fun t421 => (if t421 = true then (laws_FnSessions.j0 k l0 t409 t413 t416 bt417.1 bt417.2 (!bt417.2) t406 t407 t408) else (laws_FnSessions.j0 k l0 t409 t413 t416 bt417.1 bt417.2 true t406 t407 t408))))) = some r := H
  have A5 := Aside0.mk A50
  clear A50
  replace H := Option.bind_eq_some_iff.mp H
  obtain ⟨⟨t417, t420⟩, A60, H⟩ := H
  replace H : (if (t420 != t416) = true then (laws_FnSessions.j0 k l0 t409 t413 t416 t417 t420 true t406 t407 t408) else ((laws_sameWins.f k t417 t413).bind fun t421 => (if t421 = true then (laws_FnSessions.j0 k l0 t409 t413 t416 t417 t420 (!t420) t406 t407 t408) else (laws_FnSessions.j0 k l0 t409 t413 t416 t417 t420 true t406 t407 t408)))) = some r := H
  have A6 := Aside0.mk A60
  clear A60
  have HC7 := Aside0.mk H
  clear H
  go_enter Try.func6, Try.ntmps6
  go_upto_region 6 with (first | ((with_reducible refine gate_callee (f := 8) rfl ?_); refine goesL_ (some 22) rfl rfl Try.func8 (by kernel_rfl) rfl #[.slice A0 l0.length c0] rfl (zb10) ?_; (with_reducible refine (laws_big.calls _ _ l0 false _ ?side1 ?side2 A2.out).mono ?_); (case side1 => repeat (first | exact HR0.out | (with_reducible refine Kd.C_alloc ?_ _) | (with_reducible refine Kd.C_drewN ?_ _) | (with_reducible refine Kd.C_drew ?_))); (case side2 => exact HC0.out); rintro e w' ⟨rfl, ⟨nd, rfl⟩⟩; refine ⟨_, rfl, ?_⟩) | ((with_reducible refine gate_callee (f := 25) rfl ?_); refine goesL_ (some 25) rfl rfl Try.func25 (by kernel_rfl) rfl #[.slice A0 l0.length c0] rfl (zb10) ?_; (with_reducible refine (spec_DrawSessOf.calls k _ _ l0 t406 t407 t408 t409 _ ?side1 ?side2 A4.out).mono ?_); (case side1 => repeat (first | exact HR0.out | (with_reducible refine Kd.C_alloc ?_ _) | (with_reducible refine Kd.C_drewN ?_ _) | (with_reducible refine Kd.C_drew ?_))); (case side2 => exact HC0.out); rintro e w8 ⟨v410, rfl, ho0, hb⟩; refine ⟨_, rfl, ?_⟩; have n0_ := Aside0.mk (Kd.R_lower ho0 (below_size (zb3))); have n1_ := Aside0.mk (below_step (zb3) hb); clear HB; have HO411 := n0_; have HB := n1_; clear n0_ n1_; (try clear hb); (try clear hb2); (try clear hk); (try clear hi); (try clear ho0)) | ((with_reducible refine gate_dst (N := 3) rfl ?_); refine box_event ?hg (N := 3) ?hd (cs := #[.int .i64 0, .int .i64 0, .int .i64 0]) (t := 48) ?hr ?_; (case hd => rfl); (case hg => rfl); (case hr => first | (go_simp; done) | (go_simp; rfl)); intro gb412 hg w9 hbox hb; have n0_ := Aside0.mk (Kd.R_below (zb93) hb); have n1_ := Aside0.mk (below_step (zb3) hb); have n2_ := Aside0.mk (hbox); have n3_ := Aside0.mk ((by rw [hg]; exact (below_size (zb3)) : w.heap.size ≤ gb412)); have n4_ := Aside0.mk ((by rw [hg]; exact (below_size (zb3)) : w.heap.size ≤ gb412)); clear HO411; clear HB; have HO411 := n0_; have HB := n1_; have BK412 := n2_; have GW412 := n3_; have GE412 := n4_; clear n0_ n1_ n2_ n3_ n4_; clear hb hbox hg; have hcz10_0 : w9.cell? ⟨gb412, 0, none⟩ = some (.int .i64 0) := (blk_cell BK412.out 0).trans rfl; have hcz10_1 : w9.cell? ⟨gb412, 1, none⟩ = some (.int .i64 0) := (blk_cell BK412.out 1).trans rfl; have hcz10_2 : w9.cell? ⟨gb412, 2, none⟩ = some (.int .i64 0) := (blk_cell BK412.out 2).trans rfl; have hfz10_0 := blk_frozen BK412.out 0; have hfz10_1 := blk_frozen BK412.out 1; have hfz10_2 := blk_frozen BK412.out 2; obtain ⟨Ao11, co11, eo11⟩ := Kd.R_slice HO411.out; subst eo11) | ((with_reducible refine gate_callee (f := 26) rfl ?_); refine goesL_ (some 31) rfl rfl Try.func26 (by kernel_rfl) rfl #[.agg #[.int .i64 t406, .int .i64 t407, .int .i64 t408], .slice Ao11 t409.length co11] rfl (zb10) ?_; (with_reducible refine (spec_SessOf.calls k t406 t407 t408 _ _ t409 t413 t416 _ ?side1 ?side2 A5.out).mono ?_); (case side1 => refine (Kd.R_reads' (e := 3) (base := w.heap.size) (ok := fun k_ => True) (n := t409.length) (c := co11) ?_).2.2; exact (zb94)); (case side2 => exact (Kd.R_reads' HO411.out).2.1); rintro e w12 ⟨v414, rfl, ho0, hb⟩; refine ⟨_, rfl, ?_⟩; have n0_ := Aside0.mk (Kd.R_below (zb94) hb); have n1_ := Aside0.mk (Kd.R_lower ho0 (below_size (zb95))); have n2_ := Aside0.mk (blk_below (g := gb412) (o := .cells #[.int .i64 t406, .int .i64 t407, .int .i64 t408] 48 (0, 0)) (by (with_reducible repeat (first | refine blk_drewN ?_ _ | refine blk_drew ?_ | refine blk_alloc ?_ _)); refine blk_put (cs := #[.int .i64 t406, .int .i64 t407, .int .i64 0]) ?_ 2 _ rfl; (with_reducible repeat (first | refine blk_drewN ?_ _ | refine blk_drew ?_ | refine blk_alloc ?_ _)); refine blk_put (cs := #[.int .i64 t406, .int .i64 0, .int .i64 0]) ?_ 1 _ rfl; (with_reducible repeat (first | refine blk_drewN ?_ _ | refine blk_drew ?_ | refine blk_alloc ?_ _)); refine blk_put (cs := #[.int .i64 0, .int .i64 0, .int .i64 0]) ?_ 0 _ rfl; (with_reducible repeat (first | refine blk_drewN ?_ _ | refine blk_drew ?_ | refine blk_alloc ?_ _)); exact BK412.out) hb); have n3_ := Aside0.mk (below_step (zb95) hb); clear HO411; clear BK412; clear HB; have HO411 := n0_; have HO415 := n1_; have BK412 := n2_; have HB := n3_; clear n0_ n1_ n2_ n3_; (try clear hb); (try clear hb2); (try clear hk); (try clear hi); (try clear ho0); have hcz13_0 : w12.cell? ⟨gb412, 0, none⟩ = some (.int .i64 t406) := (blk_cell BK412.out 0).trans rfl; have hcz13_1 : w12.cell? ⟨gb412, 1, none⟩ = some (.int .i64 t407) := (blk_cell BK412.out 1).trans rfl; have hcz13_2 : w12.cell? ⟨gb412, 2, none⟩ = some (.int .i64 t408) := (blk_cell BK412.out 2).trans rfl; have hfz13_0 := blk_frozen BK412.out 0; have hfz13_1 := blk_frozen BK412.out 1; have hfz13_2 := blk_frozen BK412.out 2) | ((with_reducible refine gate_callee (f := 27) rfl ?_); refine goesL_ (some 37) rfl rfl Try.func27 (by kernel_rfl) rfl #[.agg #[.int .i64 t406, .int .i64 t407, .int .i64 t408], .slice Ao11 t409.length co11] rfl (zb10) ?_; (with_reducible refine (impl_SessOf.calls k t406 t407 t408 _ _ t409 t417 t420 _ ?side1 ?side2 A6.out).mono ?_); (case side1 => repeat (first | exact (Kd.R_reads' HO411.out).2.2 | (with_reducible refine Kd.C_alloc ?_ _) | (with_reducible refine Kd.C_drewN ?_ _) | (with_reducible refine Kd.C_drew ?_))); (case side2 => exact (Kd.R_reads' HO411.out).2.1); rintro e w14 ⟨v418, rfl, ho0, hb⟩; refine ⟨_, rfl, ?_⟩; have n0_ := Aside0.mk (Kd.R_below (zb93) hb); have n1_ := Aside0.mk (Kd.R_elder' (by (with_reducible repeat (first | apply Kd.R_alloc | apply Kd.R_drewN | apply Kd.R_drew)); exact HO415.out) (Kd.R_base ho0) hb); have n2_ := Aside0.mk (Kd.R_lower (Kd.R_new' ho0 (Kd.R_lt (by (with_reducible repeat (first | apply Kd.R_alloc | apply Kd.R_drewN | apply Kd.R_drew)); exact HO415.out))) (below_size (zb95))); have n3_ := Aside0.mk (blk_below (g := gb412) (o := .cells #[.int .i64 t406, .int .i64 t407, .int .i64 t408] 48 (0, 0)) (zb96) hb); have n4_ := Aside0.mk (below_step (zb95) hb); clear HO411; clear HO415; clear BK412; clear HB; have HO411 := n0_; have HO415 := n1_; have HO419 := n2_; have BK412 := n3_; have HB := n4_; clear n0_ n1_ n2_ n3_ n4_; (try clear hb); (try clear hb2); (try clear hk); (try clear hi); (try clear ho0)))
  (try simp only [Act.put, List.setIfInBounds_toArray, List.set_cons_zero, List.set_cons_succ])
  go_cut [52] (fun v52 wc => ∃ (kq : Nat) (x52_6 : Bool), v52 = .bool x52_6 ∧ Aside0 (laws_FnSessions.j0 kq l0 t409 t413 t416 t417 t420 x52_6 t406 t407 t408 = some r) ∧ Aside0 (kq ≤ k) ∧ Aside0 (Kd.R (Kd.int .i64) 3 wc w.heap.size (fun _ => True) (.slice Ao11 t409.length co11) t409) ∧ Aside0 (Kd.R k105 105 wc w.heap.size (fun k_ => some k_ ≠ (v418 : Value).ownBlock) v414 t413) ∧ Aside0 (Kd.R k105 105 wc w.heap.size (fun k_ => some k_ ≠ (v414 : Value).ownBlock) v418 t417) ∧ Aside0 (wc.heap[gb412]? = some (.cells #[.int .i64 t406, .int .i64 t407, .int .i64 t408] 48 (0, 0))) ∧ Aside0 (Below w.heap.size w wc))
  case first =>
   have H := HC7.out
   clear HC7
   by_cases c15 : (t420 != t416) = true
   ·rw [if_pos c15] at H
    have c15b0 : (t420 != t416) = true := c15
    (try (have c15b1 : decide (t420 = t416) = false := by simpa using c15))
    (try (have c15b2 : (t420 == t416) = false := by simpa using c15))
    (try (have c15b3 : ¬ (t420 = t416) := by simpa using c15))
    clear c15
    (first | rw [c15b0] | (simp only [i64_w, i32_w]; rw [c15b0]) | skip)
    have H' := Aside0.mk H
    clear H
    go_wp2
    go_meet
    case rel => exact ⟨_, (true), (zb1), H', ⟨zb19⟩, ⟨zb93⟩, ⟨zb97⟩, ⟨zb98⟩, ⟨zb96⟩, ⟨zb95⟩⟩
   ·rw [if_neg c15] at H
    have c15b0 : (t420 != t416) = false := by simpa using c15
    (try (have c15b1 : decide (t420 = t416) = true := by simpa using c15))
    (try (have c15b2 : (t420 == t416) = true := by simpa using c15))
    clear c15
    (first | rw [c15b0] | (simp only [i64_w, i32_w]; rw [c15b0]) | skip)
    replace H := Option.bind_eq_some_iff.mp H
    obtain ⟨t421, A160, H⟩ := H
    replace H : (if t421 = true then (laws_FnSessions.j0 k l0 t409 t413 t416 t417 t420 (!t420) t406 t407 t408) else (laws_FnSessions.j0 k l0 t409 t413 t416 t417 t420 true t406 t407 t408)) = some r := H
    have A16 := Aside0.mk A160
    clear A160
    by_cases c17 : t421 = true
    ·subst c17
     have H1 : (laws_FnSessions.j0 k l0 t409 t413 t416 t417 t420 (!t420) t406 t407 t408) = some r := by rw [if_pos rfl] at H; exact H
     clear H
     have H := H1
     clear H1
     have H' := Aside0.mk H
     clear H
     obtain ⟨Ao18, co18, eo18⟩ := Kd.R_slice HO419.out
     subst eo18
     obtain ⟨Ao19, co19, eo19⟩ := Kd.R_slice HO415.out
     subst eo19
     go_wp2_with (first | (go_at_call 28; (with_reducible refine (laws_sameWins.calls k _ _ t417 _ _ t413 true _ ?side1 ?side2 ?side3 ?side4 A16.out).mono ?_); (case side1 => repeat (first | exact (Kd.R_reads' HO419.out).2.2 | (with_reducible refine Kd.C_alloc ?_ _) | (with_reducible refine Kd.C_drewN ?_ _) | (with_reducible refine Kd.C_drew ?_))); (case side2 => exact (Kd.R_reads' HO419.out).2.1); (case side3 => repeat (first | exact (Kd.R_reads' HO415.out).2.2 | (with_reducible refine Kd.C_alloc ?_ _) | (with_reducible refine Kd.C_drewN ?_ _) | (with_reducible refine Kd.C_drew ?_))); (case side4 => exact (Kd.R_reads' HO415.out).2.1); rintro e w' ⟨rfl, ⟨nd, rfl⟩⟩))
     go_meet
     case rel => exact ⟨_, (!t420), (zb1), H', ⟨zb19⟩, ⟨zb93⟩, ⟨zb97⟩, ⟨zb98⟩, ⟨zb96⟩, ⟨zb95⟩⟩
    ·replace c17 := Bool.eq_false_iff.mpr c17
     subst c17
     have H1 : (laws_FnSessions.j0 k l0 t409 t413 t416 t417 t420 true t406 t407 t408) = some r := by rw [if_neg (show ¬ (false = true) by decide)] at H; exact H
     clear H
     have H := H1
     clear H1
     have H' := Aside0.mk H
     clear H
     obtain ⟨Ao20, co20, eo20⟩ := Kd.R_slice HO419.out
     subst eo20
     obtain ⟨Ao21, co21, eo21⟩ := Kd.R_slice HO415.out
     subst eo21
     go_wp2_with (first | (go_at_call 28; (with_reducible refine (laws_sameWins.calls k _ _ t417 _ _ t413 false _ ?side1 ?side2 ?side3 ?side4 A16.out).mono ?_); (case side1 => repeat (first | exact (Kd.R_reads' HO419.out).2.2 | (with_reducible refine Kd.C_alloc ?_ _) | (with_reducible refine Kd.C_drewN ?_ _) | (with_reducible refine Kd.C_drew ?_))); (case side2 => exact (Kd.R_reads' HO419.out).2.1); (case side3 => repeat (first | exact (Kd.R_reads' HO415.out).2.2 | (with_reducible refine Kd.C_alloc ?_ _) | (with_reducible refine Kd.C_drewN ?_ _) | (with_reducible refine Kd.C_drew ?_))); (case side4 => exact (Kd.R_reads' HO415.out).2.1); rintro e w' ⟨rfl, ⟨nd, rfl⟩⟩))
     go_meet
     case rel => exact ⟨_, (true), (zb1), H', ⟨zb19⟩, ⟨zb93⟩, ⟨zb97⟩, ⟨zb98⟩, ⟨zb96⟩, ⟨zb95⟩⟩
  case rest =>
   clear HC7
   try clear c1
   try clear c2
   try clear p2
   try clear c3
   try clear c6
   try clear c8
   try clear c15
   try clear c15b0
   try clear c15b1
   try clear c15b2
   try clear c17
   try clear hcz10_0
   try clear hcz10_1
   try clear hcz10_2
   try clear hcz13_0
   try clear hcz13_1
   try clear hcz13_2
   try clear hfz10_0
   try clear hfz10_1
   try clear hfz10_2
   try clear hfz13_0
   try clear hfz13_1
   try clear hfz13_2
   obtain ⟨kq, x52_6, rfl, HA, HJ6, HO_4, HO_5, HO_7, BK412, HB⟩ := hcut
   cases kq with
   | zero => exact absurd HA.out (by simp [laws_FnSessions.j0])
   | succ kj6 =>
    have H := HA.out
    clear HA
    simp only [laws_FnSessions.j0] at H
    by_cases c22 : x52_6 = true
    ·subst c22
     have H1 : (if (t420 == t416) = true then ((laws_sameWins.f kj6 t417 t413).bind fun t422 => (some t422)) else (some false)) = some r := by rw [if_pos rfl] at H; exact H
     clear H
     have H := H1
     clear H1
     by_cases c23 : (t420 == t416) = true
     ·rw [if_pos c23] at H
      have c23b0 : (t420 == t416) = true := c23
      (try (have c23b1 : decide (t420 = t416) = true := by simpa using c23))
      (try (have c23b2 : (t420 == t416) = true := by simpa using c23))
      clear c23
      replace H := Option.bind_eq_some_iff.mp H
      obtain ⟨t422, A240, H⟩ := H
      replace H : (some t422) = some r := H
      have A24 := Aside0.mk A240
      clear A240
      obtain rfl := Option.some.inj H
      obtain ⟨Ao25, co25, eo25⟩ := Kd.R_slice HO_7.out
      subst eo25
      obtain ⟨Ao26, co26, eo26⟩ := Kd.R_slice HO_5.out
      subst eo26
      go_wp2_with (first | (go_at_call 28; (with_reducible refine (laws_sameWins.calls kj6 _ _ t417 _ _ t413 t422 _ ?side1 ?side2 ?side3 ?side4 A24.out).mono ?_); (case side1 => repeat (first | exact (Kd.R_reads' HO_7.out).2.2 | (with_reducible refine Kd.C_alloc ?_ _) | (with_reducible refine Kd.C_drewN ?_ _) | (with_reducible refine Kd.C_drew ?_))); (case side2 => exact (Kd.R_reads' HO_7.out).2.1); (case side3 => repeat (first | exact (Kd.R_reads' HO_5.out).2.2 | (with_reducible refine Kd.C_alloc ?_ _) | (with_reducible refine Kd.C_drewN ?_ _) | (with_reducible refine Kd.C_drew ?_))); (case side4 => exact (Kd.R_reads' HO_5.out).2.1); rintro e w' ⟨rfl, ⟨nd, rfl⟩⟩))
      go_ret
      exact ⟨zb5, zb95⟩
     ·rw [if_neg c23] at H
      have c23b0 : (t420 == t416) = false := by simpa using c23
      (try (have c23b1 : decide (t420 = t416) = false := by simpa using c23))
      (try (have c23b2 : (t420 == t416) = false := by simpa using c23))
      (try (have c23b3 : ¬ (t420 = t416) := by simpa using c23))
      clear c23
      obtain rfl := Option.some.inj H
      go_wp2
      go_ret
      exact ⟨zb5, zb95⟩
    ·replace c22 := Bool.eq_false_iff.mpr c22
     subst c22
     have H1 : (laws_FnSessions.l0 kj6 l0 t409 t417 (([] : List Int)) (wrap64 ((t409.length : Int) - 1)) t406 t407 t408) = some r := by rw [if_neg (show ¬ (false = true) by decide)] at H; exact H
     clear H
     have H := H1
     clear H1
     obtain ⟨y423, hy423⟩ : ∃ y_ : List Int, y_ = (([] : List Int)) := ⟨_, rfl⟩
     replace H : (laws_FnSessions.l0 kj6 l0 t409 t417 y423 (wrap64 ((t409.length : Int) - 1)) t406 t407 t408) = some r := by first | (rw [hy423]; with_reducible exact H) | (have H2_ := (Option.bind_some _ _).symm.trans H; rw [hy423]; with_reducible exact H2_) | (have H2_ := (Option.bind_some _ _).symm.trans H; with_reducible exact H2_) | with_reducible exact H | (rw [hy423]; exact H) | exact H
     have Ny423 := Aside0.mk hy423
     clear hy423
     have H' := Aside0.mk H
     clear H
     go_wp2_with (first | ((with_reducible refine gate_dst (N := 61) rfl ?_); refine Kd.R_lit (Kd.int .i64) _ 3 ?hg (N := 61) ?hd (xs := ([] : List Int)) (inner := []) (ok := fun _ => True) (okp := fun _ => True) ?hr ?hp (fun _ hk => hk) trivial (Below.refl _ _) (Nat.le_refl _) (by simp) ?_; (case hd => rfl); (case hg => rfl); (case hr => first | (go_simp; done) | (go_simp; rfl)); (case hp => exact (Reps.none _ _)); intro v424 w27 ho28 hb hg_ hnew_; clear hg_ hnew_; (first | rw [← Ny423.out] at ho28 | (simp only [Int.reduceToNat] at ho28; rw [← Ny423.out] at ho28)); have n0_ := Aside0.mk (Kd.R_elder' (zb99) (Kd.R_base ho28) hb); have n1_ := Aside0.mk (Kd.R_below (by (with_reducible repeat (first | apply Kd.R_alloc | apply Kd.R_drewN | apply Kd.R_drew)); exact HO_5.out) hb); have n2_ := Aside0.mk (Kd.R_below (zb55) hb); have n3_ := Aside0.mk (Kd.R_lower (Kd.R_new' ho28 (Kd.R_lt (zb99))) (below_size (zb95))); have n4_ := Aside0.mk (blk_below (g := gb412) (o := .cells #[.int .i64 t406, .int .i64 t407, .int .i64 t408] 48 (0, 0)) (zb96) hb); have n5_ := Aside0.mk (below_step (zb95) hb); clear HO_4; clear HO_5; clear HO_7; clear BK412; clear HB; have HO_4 := n0_; have HO_5 := n1_; have HO_7 := n2_; have HO425 := n3_; have BK412 := n4_; have HB := n5_; clear n0_ n1_ n2_ n3_ n4_ n5_; clear hb ho28))
     go_loopg [9, 10] kj6 (fun kq v9 v10 w' => ∃ (x9_2 : List Int) (x10_2 : Int), v10 = .int .i64 x10_2 ∧ Aside0 (laws_FnSessions.l0 kq l0 t409 t417 x9_2 x10_2 t406 t407 t408 = some r) ∧ Aside0 (kq ≤ kj6) ∧ Aside0 (Kd.R (Kd.int .i64) 3 w' w.heap.size (fun k_ => some k_ ≠ (v9 : Value).ownBlock) (.slice Ao11 t409.length co11) t409) ∧ Aside0 (Kd.R k105 105 w' w.heap.size (fun _ => True) v418 t417) ∧ Aside0 (Kd.R (Kd.int .i64) 3 w' w.heap.size (fun k_ => some k_ ≠ ((.slice Ao11 t409.length co11) : Value).ownBlock) v9 x9_2) ∧ Aside0 (w'.heap[gb412]? = some (.cells #[.int .i64 t406, .int .i64 t407, .int .i64 t408] 48 (0, 0))) ∧ Aside0 (Below w.heap.size w w'))
     case atStart => exact ⟨(y423), (wrap64 ((t409.length : Int) - 1)), (zb1), H', ⟨Nat.le_refl _⟩, ⟨zb100⟩, ⟨by (with_reducible repeat (first | apply Kd.R_alloc | apply Kd.R_drewN | apply Kd.R_drew)); exact Kd.R_mono HO_7.out (fun _ hk => trivial)⟩, ⟨by (with_reducible repeat (first | apply Kd.R_alloc | apply Kd.R_drewN | apply Kd.R_drew)); exact Kd.R_mono HO425.out (fun _ hk => hk.2)⟩, ⟨zb96⟩, ⟨zb95⟩⟩
     case round =>
      clear H'
      try clear c1
      try clear c2
      try clear p2
      try clear c3
      try clear c6
      try clear p6
      try clear c8
      try clear c15
      try clear c15b0
      try clear c15b1
      try clear c15b2
      try clear c17
      try clear c22
      try clear c23
      try clear c23b0
      try clear c23b1
      try clear c23b2
      try clear c25
      try clear c26
      try clear c27
      try clear hcz10_0
      try clear hcz10_1
      try clear hcz10_2
      try clear hcz13_0
      try clear hcz13_1
      try clear hcz13_2
      try clear hfz10_0
      try clear hfz10_1
      try clear hfz10_2
      try clear hfz13_0
      try clear hfz13_1
      try clear hfz13_2
      try clear p2
      obtain ⟨x9_2, x10_2, rfl, HA, HK2, HO_4, HO_7, HO_9, BK412, HB⟩ := hrel
      cases gk with
      | zero => exact absurd HA.out (by simp [laws_FnSessions.l0])
      | succ k2 =>
       have H := HA.out
       clear HA
       simp only [laws_FnSessions.l0] at H
       by_cases c29 : x10_2 ≥ 0
       ·rw [if_pos c29] at H
        have c29b0 : decide (0 ≤ x10_2) = true := decide_eq_true c29
        clear c29
        by_cases c30 : 0 ≤ x10_2
        ·rw [if_pos c30] at H
         have c30b0 : decide (0 ≤ x10_2) = true := decide_eq_true c30
         clear c30
         by_cases c31 : x10_2 < (t409.length : Int)
         ·rw [if_pos c31] at H
          have c31b0 : decide (x10_2 < (t409.length : Int)) = true := decide_eq_true c31
          clear c31
          by_cases c32 : x9_2.length < 17592186044416
          ·rw [if_pos c32] at H
           have LMc32 := Aside0.mk c32
           clear c32
           obtain ⟨y427, hy427⟩ : ∃ y_ : List Int, y_ = (x9_2 ++ [rd t409 x10_2]) := ⟨_, rfl⟩
           replace H : (laws_FnSessions.l0 k2 l0 t409 t417 y427 (wrap64 (x10_2 - 1)) t406 t407 t408) = some r := by first | (rw [hy427]; with_reducible exact H) | (have H2_ := (Option.bind_some _ _).symm.trans H; rw [hy427]; with_reducible exact H2_) | (have H2_ := (Option.bind_some _ _).symm.trans H; with_reducible exact H2_) | with_reducible exact H | (rw [hy427]; exact H) | exact H
           have Ny427 := Aside0.mk hy427
           clear hy427
           have H' := Aside0.mk H
           clear H
           have p426 : 0 ≤ (x10_2 : Int) := of_decide_eq_true (zb9)
           have q426 : x10_2 < (t409.length : Int) := of_decide_eq_true (zb9)
           obtain ⟨ad426, e426, hx426_0⟩ := Kd.at_int (Kd.R_reads' HO_4.out).2.2 x10_2 p426 q426
           cases e426
           replace p426 := eq_true p426
           replace q426 := eq_true q426
           go_wp2_with (first | ((with_reducible refine gate_builtin (b := .append) (xs := #[.tmp 69, .tmp 74]) rfl ?_); at_builtin; refine Kd.R_append (Kd.int .i64) (w0 := w) w.heap.size rfl (.tmp 69) (.tmp 74) 34 3 (.int .i64 0) 8 rfl Try.underlying34 info3 rfl (by decide) (by omega) u9 x9_2 (rd t409 x10_2) [.int .i64 (rd t409 x10_2)] (fun k_ => some k_ ≠ (.slice (some ad426) t409.length co11 : Value).ownBlock) (fun _ => False) rfl rfl ?aP (fun _ hk => hk.elim) ?aF ?aO ?aB ?aS ?aL ?_; (case aP => exact rfl); (case aB => exact (zb95)); (case aF => exact (fun k_ hk => Kd.fresh' (Kd.R_lt (zb99)) k_ hk)); (case aO => exact (zb101)); (case aS => exact (below_size (zb95))); (case aL => have := LMc32.out; omega); intro v428 w33 ho hb hg hat; rw [← Ny427.out] at ho; have n0_ := Aside0.mk (Kd.R_after (ok := (fun _ => True)) (by (with_reducible repeat (first | apply Kd.R_alloc | apply Kd.R_drewN | apply Kd.R_drew)); exact Kd.R_mono HO_4.out (fun _ hk => ⟨trivial, hk⟩)) hg hat); have n1_ := Aside0.mk (Kd.R_over' (zb55) (Kd.R_typed (zb101)) (by decide) hg); have n2_ := Aside0.mk (blk_grown (g := gb412) (o := .cells #[.int .i64 t406, .int .i64 t407, .int .i64 t408] 48 (0, 0)) (zb96) hg (Kd.R_ne HO_9.out BK412.out (by decide))); have n3_ := Aside0.mk (hb); have n4_ := Aside0.mk (ho); clear HO_4; clear HO_7; clear BK412; clear HB; clear HO_9; have HO_4 := n0_; have HO_7 := n1_; have BK412 := n2_; have HB := n3_; have HO429 := n4_; clear n0_ n1_ n2_ n3_ n4_; clear ho hb hg hat))
           go_roundg k2
           case measure => have := HJ6.out; have := HK2.out; omega
           case rel => exact ⟨(y427), (wrap64 (x10_2 - 1)), (zb1), H', ⟨by have := HJ6.out; have := HK2.out; omega⟩, ⟨zb100⟩, ⟨zb55⟩, ⟨by (with_reducible repeat (first | apply Kd.R_alloc | apply Kd.R_drewN | apply Kd.R_drew)); exact HO429.out⟩, ⟨zb96⟩, ⟨zb95⟩⟩
          ·rw [if_neg c32] at H
           exact absurd H (by simp)
         ·rw [if_neg c31] at H
          exact absurd H (by simp)
        ·rw [if_neg c30] at H
         exact absurd H (by simp)
       ·rw [if_neg c29] at H
        have c29b0 : decide (0 ≤ x10_2) = false := decide_eq_false c29
        clear c29
        replace H := Option.bind_eq_some_iff.mp H
        obtain ⟨⟨t430, t433⟩, A340, H⟩ := H
        replace H : ((laws_pick.f k2 l0 3 (wrap64 ((t409.length : Int) + 1))).bind fun t434 => (if 0 ≤ t434 then (if t434 ≤ (t409.length : Int) then ((impl_SessOf.f k2 t406 t407 t408 (t409.take (t434 : Int).toNat)).bind fun bt439 => ((impl_SessOf.f k2 t406 t407 t408 (t409.drop (t434 : Int).toNat)).bind fun bt447 => ((impl_SessJoin.f k2 bt439.1 bt447.1).bind fun bt451 => (laws_FnSessions.l1 k2 t409 t417 t430 t433 bt439.2 bt447.2 bt451.1 bt451.2 0)))) else (none)) else (none))) = some r := H
        have A34 := Aside0.mk A340
        clear A340
        replace H := Option.bind_eq_some_iff.mp H
        obtain ⟨t434, A350, H⟩ := H
        replace H : (if 0 ≤ t434 then (if t434 ≤ (t409.length : Int) then ((impl_SessOf.f k2 t406 t407 t408 (t409.take (t434 : Int).toNat)).bind fun bt439 => ((impl_SessOf.f k2 t406 t407 t408 (t409.drop (t434 : Int).toNat)).bind fun bt447 => ((impl_SessJoin.f k2 bt439.1 bt447.1).bind fun bt451 => (laws_FnSessions.l1 k2 t409 t417 t430 t433 bt439.2 bt447.2 bt451.1 bt451.2 0)))) else (none)) else (none)) = some r := H
        have A35 := Aside0.mk A350
        clear A350
        by_cases c36 : 0 ≤ t434
        ·rw [if_pos c36] at H
         have c36b0 := eq_true c36
         have c36b1 : decide (0 ≤ t434) = true := decide_eq_true c36
         clear c36
         by_cases c37 : t434 ≤ (t409.length : Int)
         ·rw [if_pos c37] at H
          have c37b0 := eq_true c37
          have c37b1 : decide (t434 ≤ (t409.length : Int)) = true := decide_eq_true c37
          clear c37
          obtain ⟨y435, hy435⟩ : ∃ y_ : List Int, y_ = (t409.take (t434 : Int).toNat) := ⟨_, rfl⟩
          replace H : ((impl_SessOf.f k2 t406 t407 t408 y435).bind fun bt439 => ((impl_SessOf.f k2 t406 t407 t408 (t409.drop (t434 : Int).toNat)).bind fun bt447 => ((impl_SessJoin.f k2 bt439.1 bt447.1).bind fun bt451 => (laws_FnSessions.l1 k2 t409 t417 t430 t433 bt439.2 bt447.2 bt451.1 bt451.2 0)))) = some r := by first | (rw [hy435]; with_reducible exact H) | (have H2_ := (Option.bind_some _ _).symm.trans H; rw [hy435]; with_reducible exact H2_) | (have H2_ := (Option.bind_some _ _).symm.trans H; with_reducible exact H2_) | with_reducible exact H | (rw [hy435]; exact H) | exact H
          have Ny435 := Aside0.mk hy435
          clear hy435
          replace H := Option.bind_eq_some_iff.mp H
          obtain ⟨⟨t439, t442⟩, A380, H⟩ := H
          replace H : ((impl_SessOf.f k2 t406 t407 t408 (t409.drop (t434 : Int).toNat)).bind fun bt447 => ((impl_SessJoin.f k2 t439 bt447.1).bind fun bt451 => (laws_FnSessions.l1 k2 t409 t417 t430 t433 t442 bt447.2 bt451.1 bt451.2 0))) = some r := H
          have A38 := Aside0.mk A380
          clear A380
          have c39b0 := eq_true (of_decide_eq_true (zb9) : 0 ≤ t434)
          have c40b0 := eq_true (of_decide_eq_true (zb9) : t434 ≤ (t409.length : Int))
          obtain ⟨y443, hy443⟩ : ∃ y_ : List Int, y_ = (t409.drop (t434 : Int).toNat) := ⟨_, rfl⟩
          replace H : ((impl_SessOf.f k2 t406 t407 t408 y443).bind fun bt447 => ((impl_SessJoin.f k2 t439 bt447.1).bind fun bt451 => (laws_FnSessions.l1 k2 t409 t417 t430 t433 t442 bt447.2 bt451.1 bt451.2 0))) = some r := by first | (rw [hy443]; with_reducible exact H) | (have H2_ := (Option.bind_some _ _).symm.trans H; rw [hy443]; with_reducible exact H2_) | (have H2_ := (Option.bind_some _ _).symm.trans H; with_reducible exact H2_) | with_reducible exact H | (rw [hy443]; exact H) | exact H
          have Ny443 := Aside0.mk hy443
          clear hy443
          replace H := Option.bind_eq_some_iff.mp H
          obtain ⟨⟨t447, t450⟩, A410, H⟩ := H
          replace H : ((impl_SessJoin.f k2 t439 t447).bind fun bt451 => (laws_FnSessions.l1 k2 t409 t417 t430 t433 t442 t450 bt451.1 bt451.2 0)) = some r := H
          have A41 := Aside0.mk A410
          clear A410
          replace H := Option.bind_eq_some_iff.mp H
          obtain ⟨⟨t451, t452⟩, A420, H⟩ := H
          replace H : (laws_FnSessions.l1 k2 t409 t417 t430 t433 t442 t450 t451 t452 0) = some r := H
          have A42 := Aside0.mk A420
          clear A420
          have H' := Aside0.mk H
          clear H
          have hcz43_0 : wr.cell? ⟨gb412, 0, none⟩ = some (.int .i64 t406) := (blk_cell BK412.out 0).trans rfl
          have hcz43_1 : wr.cell? ⟨gb412, 1, none⟩ = some (.int .i64 t407) := (blk_cell BK412.out 1).trans rfl
          have hcz43_2 : wr.cell? ⟨gb412, 2, none⟩ = some (.int .i64 t408) := (blk_cell BK412.out 2).trans rfl
          have hfz43_0 := blk_frozen BK412.out 0
          have hfz43_1 := blk_frozen BK412.out 1
          have hfz43_2 := blk_frozen BK412.out 2
          obtain ⟨Ao44, co44, eo44⟩ := Kd.R_slice HO_9.out
          subst eo44
          try go_wp2_with (first | ((with_reducible refine gate_callee (f := 27) rfl ?_); refine goesL_ (some 79) rfl rfl Try.func27 (by kernel_rfl) rfl #[.agg #[.int .i64 t406, .int .i64 t407, .int .i64 t408], .slice Ao44 x9_2.length co44] rfl (zb10) ?_; (with_reducible refine (impl_SessOf.calls k2 t406 t407 t408 _ _ x9_2 t430 t433 _ ?side1 ?side2 A34.out).mono ?_); (case side1 => repeat (first | exact (Kd.R_reads' HO_9.out).2.2 | (with_reducible refine Kd.C_alloc ?_ _) | (with_reducible refine Kd.C_drewN ?_ _) | (with_reducible refine Kd.C_drew ?_))); (case side2 => exact (Kd.R_reads' HO_9.out).2.1); rintro e w45 ⟨v431, rfl, ho0, hb⟩; refine ⟨_, rfl, ?_⟩; have n0_ := Aside0.mk (Kd.R_below (zb99) hb); have n1_ := Aside0.mk (Kd.R_elder' (zb55) (Kd.R_base ho0) hb); have n2_ := Aside0.mk (Kd.R_below (zb101) hb); have n3_ := Aside0.mk (Kd.R_lower (Kd.R_new' ho0 (Kd.R_lt (zb55))) (below_size (zb95))); have n4_ := Aside0.mk (blk_below (g := gb412) (o := .cells #[.int .i64 t406, .int .i64 t407, .int .i64 t408] 48 (0, 0)) (zb96) hb); have n5_ := Aside0.mk (below_step (zb95) hb); clear HO_4; clear HO_7; clear HO_9; clear BK412; clear HB; have HO_4 := n0_; have HO_7 := n1_; have HO_9 := n2_; have HO432 := n3_; have BK412 := n4_; have HB := n5_; clear n0_ n1_ n2_ n3_ n4_ n5_; (try clear hb); (try clear hb2); (try clear hk); (try clear hi); (try clear ho0)) | ((with_reducible refine gate_callee (f := 29) rfl ?_); refine goesL_ (some 86) rfl rfl Try.func29 (by kernel_rfl) rfl #[.slice A0 l0.length c0, .int .i64 3, .int .i64 (wrap64 ((t409.length : Int) + 1))] rfl (zb10) ?_; (with_reducible refine (laws_pick.calls k2 _ _ l0 3 (wrap64 ((t409.length : Int) + 1)) t434 _ ?side1 ?side2 A35.out).mono ?_); (case side1 => repeat (first | exact (Kd.C_below HR0.out HB.out) | (with_reducible refine Kd.C_alloc ?_ _) | (with_reducible refine Kd.C_drewN ?_ _) | (with_reducible refine Kd.C_drew ?_))); (case side2 => exact HC0.out); rintro e w' ⟨rfl, ⟨nd, rfl⟩⟩; refine ⟨_, rfl, ?_⟩))
          (try (rw [drewN_self w45]; generalize hq_ : World.drewN w45 _ = w45; have n0_ : Aside0 (Kd.R k105 105 w45 w.heap.size (fun k_ => some k_ ≠ (v418 : Value).ownBlock) v431 t430) := ⟨by rw [← hq_]; exact (by (with_reducible repeat (first | apply Kd.R_alloc | apply Kd.R_drewN | apply Kd.R_drew)); exact Kd.R_mono HO432.out (fun _ hk => hk.2))⟩; have n1_ : Aside0 (Kd.R (Kd.int .i64) 3 w45 w.heap.size (fun k_ => some k_ ≠ (.slice Ao44 x9_2.length co44 : Value).ownBlock) (.slice Ao11 t409.length co11) t409) := ⟨by rw [← hq_]; exact (zb99)⟩; have n2_ : Aside0 (Kd.R k105 105 w45 w.heap.size (fun k_ => some k_ ≠ (v431 : Value).ownBlock) v418 t417) := ⟨by rw [← hq_]; exact (by (with_reducible repeat (first | apply Kd.R_alloc | apply Kd.R_drewN | apply Kd.R_drew)); exact Kd.R_mono HO_7.out (fun _ hk => hk.2))⟩; have n3_ : Aside0 (Kd.R (Kd.int .i64) 3 w45 w.heap.size (fun k_ => some k_ ≠ (.slice Ao11 t409.length co11 : Value).ownBlock) (.slice Ao44 x9_2.length co44) x9_2) := ⟨by rw [← hq_]; exact (zb101)⟩; have n4_ : Aside0 (w45.heap[gb412]? = some (.cells #[.int .i64 t406, .int .i64 t407, .int .i64 t408] 48 (0, 0))) := ⟨by rw [← hq_]; exact (zb96)⟩; have n5_ : Aside0 (Below w.heap.size w w45) := ⟨by rw [← hq_]; exact (zb95)⟩; clear HO432 HO_4 HO_7 HO_9 BK412 HB hq_; have HO432 := n0_; have HO_4 := n1_; have HO_7 := n2_; have HO_9 := n3_; have BK412 := n4_; have HB := n5_; clear n0_ n1_ n2_ n3_ n4_ n5_))
          have n0_ := Aside0.mk (Kd.R_drew HO_4.out)
          have n1_ := Aside0.mk (Kd.R_drew HO_7.out)
          have n2_ := Aside0.mk (Kd.R_drew HO_9.out)
          have n3_ := Aside0.mk (Kd.R_drew HO432.out)
          have n4_ := Aside0.mk (blk_drew BK412.out)
          have n5_ := Aside0.mk (below_drew1 HB.out)
          clear HO_4
          clear HO_7
          clear HO_9
          clear HO432
          clear BK412
          clear HB
          have HO_4 := n0_
          have HO_7 := n1_
          have HO_9 := n2_
          have HO432 := n3_
          have BK412 := n4_
          have HB := n5_
          clear n0_ n1_ n2_ n3_ n4_ n5_
          have q47 : (t434 : Int) ≤ ((t409.length : Int) : Int) := of_decide_eq_true (zb9)
          obtain ⟨i047, hi047, _, hsz47, _⟩ := info_parts info3
          have hroom47 : t409.length ≤ co11 := (Kd.R_reads' HO_4.out).2.1
          have hC47 : Kd.C (Kd.int .i64) _ Ao11 t409.length t409 := (Kd.R_reads' HO_4.out).2.2
          have hcut47 := cut_to (P := Try.prog) 34 3 .i64 Try.underlying34 hi047 Ao11 t409.length co11 t434 (of_decide_eq_true (zb9)) q47 hroom47
          have hr47 := Kd.C_take (m := (t434 : Int).toNat) hC47 (by omega)
          have hy47 : y435.length = (t434 : Int).toNat := (by rw [Ny435.out, List.length_take]; omega)
          rw [← Ny435.out] at hr47
          rw [← hy47] at hcut47
          have HR438 := Aside0.mk hr47
          have HC438 := Aside0.mk (show y435.length ≤ co11 from by omega)
          clear hr47 hC47 hroom47 hi047 hsz47
          have KY47 := Aside0.mk hy47
          clear hy47
          have KL47 := Aside0.mk (show (t434 : Int).toNat ≤ t409.length from by omega)
          replace q47 := eq_true q47
          refine start_ (n := 10) (S := fun w' => w'.cell? ⟨gb412, 0, none⟩ = some (.int .i64 t406) ∧ w'.cell? ⟨gb412, 1, none⟩ = some (.int .i64 t407) ∧ w'.cell? ⟨gb412, 2, none⟩ = some (.int .i64 t408)) (ds := []) #[false, false, false, false, false, false, false, false, false, false] (by kernel_rfl) rfl rfl ⟨(blk_cell BK412.out 0).trans rfl, (blk_cell BK412.out 1).trans rfl, (blk_cell BK412.out 2).trans rfl⟩ (fun hHeld => ?_); refine with_tabW laws_FnSessions.tab15 laws_FnSessions.bits15 (fun HT_ HW_ => ?_)
          generalize w45.drew = w46 at HO_4 HO_7 HO_9 HO432 BK412 HB HR438 hHeld ⊢
          refine pure_ (i := 1) (N := some 89) (v := ?_) (a' := ?_) #[false, true, false, false, false, false, false, false, false, false] rfl rfl (any_of HT_.out (by kernel_rfl)) (fun _ _ _ h => h) (Or.inl ⟨by rfl, ?_⟩) ?_ ?_
          rotate_left
          ·intro w'
           go_simp
           with_reducible rfl
          rotate_left
          ·simp only [Act.put, List.setIfInBounds_toArray, List.set_cons_zero, List.set_cons_succ, i64_w, i32_w]
           rfl
          refine pure_ (i := 2) (N := some 90) (v := ?_) (a' := ?_) #[false, true, true, false, false, false, false, false, false, false] rfl rfl (any_of HT_.out (by kernel_rfl)) (fun _ _ _ h => h) (Or.inl ⟨by rfl, ?_⟩) ?_ ?_
          rotate_left
          ·intro w'
           go_simp
           with_reducible rfl
          rotate_left
          ·simp only [Act.put, List.setIfInBounds_toArray, List.set_cons_zero, List.set_cons_succ, i64_w, i32_w]
           rfl
          refine pure_ (i := 3) (N := some 91) (v := ?_) (a' := ?_) #[false, true, true, true, false, false, false, false, false, false] rfl rfl (any_of HT_.out (by kernel_rfl)) (fun _ _ _ h => h) (Or.inl ⟨by rfl, ?_⟩) ?_ ?_
          rotate_left
          ·intro w'
           go_simp
           with_reducible rfl
          rotate_left
          ·simp only [Act.put, List.setIfInBounds_toArray, List.set_cons_zero, List.set_cons_succ, i64_w, i32_w]
           rfl
          refine take_ (i := 0) (N := some 88) (v := ?_) (a' := ?_) #[true, true, true, true, false, false, false, false, false, false] rfl rfl (take_ofW HT_.out HW_.out (by kernel_rfl)) (fun _ _ _ h => h) (Or.inl ⟨by rfl, ?_⟩) hHeld ?_ ?_
          rotate_left
          ·rintro w' ⟨s0, s1, s2⟩
           go_simp
           with_reducible rfl
          rotate_left
          ·simp only [Act.put, List.setIfInBounds_toArray, List.set_cons_zero, List.set_cons_succ, i64_w, i32_w]
           rfl
          refine one_ (i := 4) (N := some 92) #[true, true, true, true, true, false, false, false, false, false] rfl rfl (one_of HT_.out (by kernel_rfl)) (by decide) (fun K hK => ?_)
          refine goes_ Try.func27 (by kernel_rfl) rfl #[.agg #[.int .i64 t406, .int .i64 t407, .int .i64 t408], .slice Ao11 y435.length co11] (by rfl) rfl rfl (zb10) ?_
          with_reducible refine (impl_SessOf.calls k2 t406 t407 t408 _ _ y435 t439 t442 _ ?side1 ?side2 A38.out).mono ?_
          (case side1 => repeat (first | exact (zb102) | (with_reducible refine Kd.C_alloc ?_ _) | (with_reducible refine Kd.C_drewN ?_ _) | (with_reducible refine Kd.C_drew ?_)))
          (case side2 => exact HC438.out)
          rintro e w48 ⟨v440, rfl, ho0, hb⟩
          refine ⟨_, rfl, ?_⟩
          have n0_ := Aside0.mk (Kd.R_below (zb99) hb)
          have n1_ := Aside0.mk (Kd.R_elder' (zb55) (Kd.R_base ho0) hb)
          have n2_ := Aside0.mk (Kd.R_below (zb101) hb)
          have n3_ := Aside0.mk (Kd.R_elder' (zb103) (Kd.R_base ho0) hb)
          have n4_ := Aside0.mk (Kd.R_lower (Kd.R_new' (Kd.R_new' ho0 (Kd.R_lt (zb55))) (Kd.R_lt (zb103))) (below_size (zb95)))
          have n5_ := Aside0.mk (blk_below (g := gb412) (o := .cells #[.int .i64 t406, .int .i64 t407, .int .i64 t408] 48 (0, 0)) (zb96) hb)
          have n6_ := Aside0.mk (Kd.C_below (zb102) hb)
          have n7_ := Aside0.mk (below_step (zb95) hb)
          clear HO_4
          clear HO_7
          clear HO_9
          clear HO432
          clear BK412
          clear HR438
          clear HB
          have HO_4 := n0_
          have HO_7 := n1_
          have HO_9 := n2_
          have HO432 := n3_
          have HO441 := n4_
          have BK412 := n5_
          have HR438 := n6_
          have HB := n7_
          clear n0_ n1_ n2_ n3_ n4_ n5_ n6_ n7_
          (try clear hb)
          (try clear hb2)
          (try clear hk)
          (try clear hi)
          (try clear ho0)
          refine hK.out _ _ ⟨(blk_cell BK412.out 0).trans rfl, (blk_cell BK412.out 1).trans rfl, (blk_cell BK412.out 2).trans rfl⟩ (fun hHeld => ?_)
          clear hK K
          refine norm_ (a' := ?_) ?_ ?_
          rotate_left
          ·show Act.put _ (some 92) _ = _
           simp only [Act.put, List.setIfInBounds_toArray, List.set_cons_zero, List.set_cons_succ, i64_w, i32_w]
           rfl
          refine pure_ (i := 5) (N := some 87) (v := ?_) (a' := ?_) #[true, true, true, true, true, true, false, false, false, false] rfl rfl (any_of HT_.out (by kernel_rfl)) (fun _ _ _ h => h) (Or.inl ⟨by rfl, ?_⟩) ?_ ?_
          rotate_left
          ·intro w'
           go_simp
           with_reducible rfl
          rotate_left
          ·simp only [Act.put, List.setIfInBounds_toArray, List.set_cons_zero, List.set_cons_succ, i64_w, i32_w]
           rfl
          refine pure_ (i := 6) (N := some 93) (v := ?_) (a' := ?_) #[true, true, true, true, true, true, true, false, false, false] rfl rfl (any_of HT_.out (by kernel_rfl)) (fun _ _ _ h => h) (Or.inl ⟨by rfl, ?_⟩) ?_ ?_
          rotate_left
          ·intro w'
           go_simp
           with_reducible rfl
          rotate_left
          ·simp only [Act.put, List.setIfInBounds_toArray, List.set_cons_zero, List.set_cons_succ, i64_w, i32_w]
           rfl
          refine pure_ (i := 7) (N := some 94) (v := ?_) (a' := ?_) #[true, true, true, true, true, true, true, true, false, false] rfl rfl (any_of HT_.out (by kernel_rfl)) (fun _ _ _ h => h) (Or.inl ⟨by rfl, ?_⟩) ?_ ?_
          rotate_left
          ·intro w'
           go_simp
           with_reducible rfl
          rotate_left
          ·simp only [Act.put, List.setIfInBounds_toArray, List.set_cons_zero, List.set_cons_succ, i64_w, i32_w]
           rfl
          refine pure_ (i := 8) (N := some 14) (v := ?_) (a' := ?_) #[true, true, true, true, true, true, true, true, true, false] rfl rfl (any_of HT_.out (by kernel_rfl)) (fun _ _ _ h => h) (Or.inl ⟨by rfl, ?_⟩) ?_ ?_
          rotate_left
          ·intro w'
           go_simp
           with_reducible rfl
          rotate_left
          ·simp only [Act.put, List.setIfInBounds_toArray, List.set_cons_zero, List.set_cons_succ, i64_w, i32_w]
           rfl
          refine pure_ (i := 9) (N := some 15) (v := ?_) (a' := ?_) #[true, true, true, true, true, true, true, true, true, true] rfl rfl (any_of HT_.out (by kernel_rfl)) (fun _ _ _ h => h) (Or.inl ⟨by rfl, ?_⟩) ?_ ?_
          rotate_left
          ·intro w'
           go_simp
           with_reducible rfl
          rotate_left
          ·simp only [Act.put, List.setIfInBounds_toArray, List.set_cons_zero, List.set_cons_succ, i64_w, i32_w]
           rfl
          refine done_ (done_of HT_.out (by kernel_rfl)) ?_
          try go_wp2
          have n0_ := Aside0.mk (Kd.R_drew HO_4.out)
          have n1_ := Aside0.mk (Kd.R_drew HO_7.out)
          have n2_ := Aside0.mk (Kd.R_drew HO_9.out)
          have n3_ := Aside0.mk (Kd.R_drew HO432.out)
          have n4_ := Aside0.mk (Kd.R_drew HO441.out)
          have n5_ := Aside0.mk (blk_drew BK412.out)
          have n6_ := Aside0.mk (Kd.C_drew HR438.out)
          have n7_ := Aside0.mk (below_drew1 HB.out)
          clear HO_4
          clear HO_7
          clear HO_9
          clear HO432
          clear HO441
          clear BK412
          clear HR438
          clear HB
          have HO_4 := n0_
          have HO_7 := n1_
          have HO_9 := n2_
          have HO432 := n3_
          have HO441 := n4_
          have BK412 := n5_
          have HR438 := n6_
          have HB := n7_
          clear n0_ n1_ n2_ n3_ n4_ n5_ n6_ n7_
          have q50 : (t434 : Int) ≤ ((t409.length : Int) : Int) := of_decide_eq_true (zb9)
          obtain ⟨i050, hi050, _, hsz50, _⟩ := info_parts info3
          have hroom50 : t409.length ≤ co11 := (Kd.R_reads' HO_4.out).2.1
          have hC50 : Kd.C (Kd.int .i64) _ Ao11 t409.length t409 := (Kd.R_reads' HO_4.out).2.2
          have q050 : (0 : Int) ≤ (t434 : Int) := of_decide_eq_true (zb9)
          have hcut50 := cut_from (P := Try.prog) 34 3 .i64 Try.underlying34 hi050 1 hsz50 Ao11 t409.length co11 t434 q050 q50
          have hr50 := Kd.C_drop (m := (t434 : Int).toNat) (c := co11) hC50 (by omega) hroom50
          obtain ⟨A50, hA50⟩ : ∃ A1, A1 = (if co11 = (t434 : Int).toNat then Ao11 else (Ao11 : Option Addr).map (·.add ((t434 : Int).toNat * 1))) := ⟨_, rfl⟩
          obtain ⟨c50, hc50⟩ : ∃ c1, c1 = co11 - (t434 : Int).toNat := ⟨_, rfl⟩
          have hy50 : y443.length = t409.length - (t434 : Int).toNat := (by rw [Ny443.out, List.length_drop] <;> omega)
          rw [show (t409).drop (t434 : Int).toNat = y443 from Ny443.out.symm] at hr50
          replace hr50 : Kd.C (Kd.int .i64) _ A50 y443.length y443 := (by rw [hA50]; exact hr50)
          rw [← hy50, ← hA50, ← hc50] at hcut50
          have HR446 := Aside0.mk hr50
          have HC446 := Aside0.mk (show y443.length ≤ c50 from by rw [hy50, hc50]; exact Nat.sub_le_sub_right hroom50 _)
          clear hr50 hC50 hroom50 hi050 hsz50 hc50
          have KY50 := Aside0.mk hy50
          have KA50 := Aside0.mk hA50
          clear hy50 hA50
          have KL50 := Aside0.mk (show (t434 : Int).toNat ≤ t409.length from by omega)
          replace q50 := eq_true q50
          refine start_ (n := 10) (S := fun w' => w'.cell? ⟨gb412, 0, none⟩ = some (.int .i64 t406) ∧ w'.cell? ⟨gb412, 1, none⟩ = some (.int .i64 t407) ∧ w'.cell? ⟨gb412, 2, none⟩ = some (.int .i64 t408)) (ds := []) #[false, false, false, false, false, false, false, false, false, false] (by kernel_rfl) rfl rfl ⟨(blk_cell BK412.out 0).trans rfl, (blk_cell BK412.out 1).trans rfl, (blk_cell BK412.out 2).trans rfl⟩ (fun hHeld => ?_); refine with_tabW laws_FnSessions.tab16 laws_FnSessions.bits16 (fun HT_ HW_ => ?_)
          generalize w48.drew = w49 at HO_4 HO_7 HO_9 HO432 HO441 BK412 HR438 HB HR446 hHeld ⊢
          refine pure_ (i := 1) (N := some 97) (v := ?_) (a' := ?_) #[false, true, false, false, false, false, false, false, false, false] rfl rfl (any_of HT_.out (by kernel_rfl)) (fun _ _ _ h => h) (Or.inl ⟨by rfl, ?_⟩) ?_ ?_
          rotate_left
          ·intro w'
           go_simp
           with_reducible rfl
          rotate_left
          ·simp only [Act.put, List.setIfInBounds_toArray, List.set_cons_zero, List.set_cons_succ, i64_w, i32_w]
           rfl
          refine pure_ (i := 2) (N := some 98) (v := ?_) (a' := ?_) #[false, true, true, false, false, false, false, false, false, false] rfl rfl (any_of HT_.out (by kernel_rfl)) (fun _ _ _ h => h) (Or.inl ⟨by rfl, ?_⟩) ?_ ?_
          rotate_left
          ·intro w'
           go_simp
           with_reducible rfl
          rotate_left
          ·simp only [Act.put, List.setIfInBounds_toArray, List.set_cons_zero, List.set_cons_succ, i64_w, i32_w]
           rfl
          refine pure_ (i := 3) (N := some 99) (v := ?_) (a' := ?_) #[false, true, true, true, false, false, false, false, false, false] rfl rfl (any_of HT_.out (by kernel_rfl)) (fun _ _ _ h => h) (Or.inl ⟨by rfl, ?_⟩) ?_ ?_
          rotate_left
          ·intro w'
           go_simp
           with_reducible rfl
          rotate_left
          ·simp only [Act.put, List.setIfInBounds_toArray, List.set_cons_zero, List.set_cons_succ, i64_w, i32_w]
           rfl
          refine take_ (i := 0) (N := some 96) (v := ?_) (a' := ?_) #[true, true, true, true, false, false, false, false, false, false] rfl rfl (take_ofW HT_.out HW_.out (by kernel_rfl)) (fun _ _ _ h => h) (Or.inl ⟨by rfl, ?_⟩) hHeld ?_ ?_
          rotate_left
          ·rintro w' ⟨s0, s1, s2⟩
           go_simp
           with_reducible rfl
          rotate_left
          ·simp only [Act.put, List.setIfInBounds_toArray, List.set_cons_zero, List.set_cons_succ, i64_w, i32_w]
           rfl
          refine one_ (i := 4) (N := some 100) #[true, true, true, true, true, false, false, false, false, false] rfl rfl (one_of HT_.out (by kernel_rfl)) (by decide) (fun K hK => ?_)
          refine goes_ Try.func27 (by kernel_rfl) rfl #[.agg #[.int .i64 t406, .int .i64 t407, .int .i64 t408], .slice A50 y443.length c50] (by rfl) rfl rfl (zb10) ?_
          with_reducible refine (impl_SessOf.calls k2 t406 t407 t408 _ _ y443 t447 t450 _ ?side1 ?side2 A41.out).mono ?_
          (case side1 => repeat (first | exact (zb104) | (with_reducible refine Kd.C_alloc ?_ _) | (with_reducible refine Kd.C_drewN ?_ _) | (with_reducible refine Kd.C_drew ?_)))
          (case side2 => exact HC446.out)
          rintro e w51 ⟨v448, rfl, ho0, hb⟩
          refine ⟨_, rfl, ?_⟩
          have n0_ := Aside0.mk (Kd.R_below (zb99) hb)
          have n1_ := Aside0.mk (Kd.R_elder' (zb55) (Kd.R_base ho0) hb)
          have n2_ := Aside0.mk (Kd.R_below (zb101) hb)
          have n3_ := Aside0.mk (Kd.R_elder' (zb103) (Kd.R_base ho0) hb)
          have n4_ := Aside0.mk (Kd.R_elder' (zb105) (Kd.R_base ho0) hb)
          have n5_ := Aside0.mk (Kd.R_lower (Kd.R_new' (Kd.R_new' (Kd.R_new' ho0 (Kd.R_lt (zb55))) (Kd.R_lt (zb103))) (Kd.R_lt (zb105))) (below_size (zb95)))
          have n6_ := Aside0.mk (blk_below (g := gb412) (o := .cells #[.int .i64 t406, .int .i64 t407, .int .i64 t408] 48 (0, 0)) (zb96) hb)
          have n7_ := Aside0.mk (Kd.C_below (zb102) hb)
          have n8_ := Aside0.mk (Kd.C_below (zb104) hb)
          have n9_ := Aside0.mk (below_step (zb95) hb)
          clear HO_4
          clear HO_7
          clear HO_9
          clear HO432
          clear HO441
          clear BK412
          clear HR438
          clear HR446
          clear HB
          have HO_4 := n0_
          have HO_7 := n1_
          have HO_9 := n2_
          have HO432 := n3_
          have HO441 := n4_
          have HO449 := n5_
          have BK412 := n6_
          have HR438 := n7_
          have HR446 := n8_
          have HB := n9_
          clear n0_ n1_ n2_ n3_ n4_ n5_ n6_ n7_ n8_ n9_
          (try clear hb)
          (try clear hb2)
          (try clear hk)
          (try clear hi)
          (try clear ho0)
          refine hK.out _ _ ⟨(blk_cell BK412.out 0).trans rfl, (blk_cell BK412.out 1).trans rfl, (blk_cell BK412.out 2).trans rfl⟩ (fun hHeld => ?_)
          clear hK K
          refine norm_ (a' := ?_) ?_ ?_
          rotate_left
          ·show Act.put _ (some 100) _ = _
           simp only [Act.put, List.setIfInBounds_toArray, List.set_cons_zero, List.set_cons_succ, i64_w, i32_w]
           rfl
          refine pure_ (i := 5) (N := some 95) (v := ?_) (a' := ?_) #[true, true, true, true, true, true, false, false, false, false] rfl rfl (any_of HT_.out (by kernel_rfl)) (fun _ _ _ h => h) (Or.inl ⟨by rfl, ?_⟩) ?_ ?_
          rotate_left
          ·intro w'
           go_simp
           with_reducible rfl
          rotate_left
          ·simp only [Act.put, List.setIfInBounds_toArray, List.set_cons_zero, List.set_cons_succ, i64_w, i32_w]
           rfl
          refine pure_ (i := 6) (N := some 101) (v := ?_) (a' := ?_) #[true, true, true, true, true, true, true, false, false, false] rfl rfl (any_of HT_.out (by kernel_rfl)) (fun _ _ _ h => h) (Or.inl ⟨by rfl, ?_⟩) ?_ ?_
          rotate_left
          ·intro w'
           go_simp
           with_reducible rfl
          rotate_left
          ·simp only [Act.put, List.setIfInBounds_toArray, List.set_cons_zero, List.set_cons_succ, i64_w, i32_w]
           rfl
          refine pure_ (i := 7) (N := some 102) (v := ?_) (a' := ?_) #[true, true, true, true, true, true, true, true, false, false] rfl rfl (any_of HT_.out (by kernel_rfl)) (fun _ _ _ h => h) (Or.inl ⟨by rfl, ?_⟩) ?_ ?_
          rotate_left
          ·intro w'
           go_simp
           with_reducible rfl
          rotate_left
          ·simp only [Act.put, List.setIfInBounds_toArray, List.set_cons_zero, List.set_cons_succ, i64_w, i32_w]
           rfl
          refine pure_ (i := 8) (N := some 16) (v := ?_) (a' := ?_) #[true, true, true, true, true, true, true, true, true, false] rfl rfl (any_of HT_.out (by kernel_rfl)) (fun _ _ _ h => h) (Or.inl ⟨by rfl, ?_⟩) ?_ ?_
          rotate_left
          ·intro w'
           go_simp
           with_reducible rfl
          rotate_left
          ·simp only [Act.put, List.setIfInBounds_toArray, List.set_cons_zero, List.set_cons_succ, i64_w, i32_w]
           rfl
          refine pure_ (i := 9) (N := some 17) (v := ?_) (a' := ?_) #[true, true, true, true, true, true, true, true, true, true] rfl rfl (any_of HT_.out (by kernel_rfl)) (fun _ _ _ h => h) (Or.inl ⟨by rfl, ?_⟩) ?_ ?_
          rotate_left
          ·intro w'
           go_simp
           with_reducible rfl
          rotate_left
          ·simp only [Act.put, List.setIfInBounds_toArray, List.set_cons_zero, List.set_cons_succ, i64_w, i32_w]
           rfl
          refine done_ (done_of HT_.out (by kernel_rfl)) ?_
          obtain ⟨Ao52, co52, eo52⟩ := Kd.R_slice HO441.out
          subst eo52
          obtain ⟨Ao53, co53, eo53⟩ := Kd.R_slice HO449.out
          subst eo53
          try go_wp2_with (first | ((with_reducible refine gate_callee (f := 30) rfl ?_); refine goesL_ (some 106) rfl rfl Try.func30 (by kernel_rfl) rfl #[.slice Ao52 t439.length co52, .slice Ao53 t447.length co53] rfl (zb10) ?_; (with_reducible refine (impl_SessJoin.calls k2 _ _ t439 _ _ t447 t451 t452 _ ?side1 ?side2 ?side3 ?side4 A42.out).mono ?_); (case side1 => repeat (first | exact (Kd.R_reads' HO441.out).2.2 | (with_reducible refine Kd.C_alloc ?_ _) | (with_reducible refine Kd.C_drewN ?_ _) | (with_reducible refine Kd.C_drew ?_))); (case side2 => exact (Kd.R_reads' HO441.out).2.1); (case side3 => repeat (first | exact (Kd.R_reads' HO449.out).2.2 | (with_reducible refine Kd.C_alloc ?_ _) | (with_reducible refine Kd.C_drewN ?_ _) | (with_reducible refine Kd.C_drew ?_))); (case side4 => exact (Kd.R_reads' HO449.out).2.1); rintro e w54 ⟨v453, rfl, ho0, hb⟩; refine ⟨_, rfl, ?_⟩; have n0_ := Aside0.mk (Kd.R_below (zb99) hb); have n1_ := Aside0.mk (Kd.R_elder' (zb55) (Kd.R_base ho0) hb); have n2_ := Aside0.mk (Kd.R_below (zb101) hb); have n3_ := Aside0.mk (Kd.R_elder' (zb103) (Kd.R_base ho0) hb); have n4_ := Aside0.mk (Kd.R_elder' (zb105) (Kd.R_base ho0) hb); have n5_ := Aside0.mk (Kd.R_elder' (by (with_reducible repeat (first | apply Kd.R_alloc | apply Kd.R_drewN | apply Kd.R_drew)); exact HO449.out) (Kd.R_base ho0) hb); have n6_ := Aside0.mk (Kd.R_lower (Kd.R_new' (Kd.R_new' (Kd.R_new' (Kd.R_new' ho0 (Kd.R_lt (zb55))) (Kd.R_lt (zb103))) (Kd.R_lt (zb105))) (Kd.R_lt (by (with_reducible repeat (first | apply Kd.R_alloc | apply Kd.R_drewN | apply Kd.R_drew)); exact HO449.out))) (below_size (zb95))); have n7_ := Aside0.mk (blk_below (g := gb412) (o := .cells #[.int .i64 t406, .int .i64 t407, .int .i64 t408] 48 (0, 0)) (zb96) hb); have n8_ := Aside0.mk (Kd.C_below (zb102) hb); have n9_ := Aside0.mk (Kd.C_below (zb104) hb); have n10_ := Aside0.mk (below_step (zb95) hb); clear HO_4; clear HO_7; clear HO_9; clear HO432; clear HO441; clear HO449; clear BK412; clear HR438; clear HR446; clear HB; have HO_4 := n0_; have HO_7 := n1_; have HO_9 := n2_; have HO432 := n3_; have HO441 := n4_; have HO449 := n5_; have HO454 := n6_; have BK412 := n7_; have HR438 := n8_; have HR446 := n9_; have HB := n10_; clear n0_ n1_ n2_ n3_ n4_ n5_ n6_ n7_ n8_ n9_ n10_; (try clear hb); (try clear hb2); (try clear hk); (try clear hi); (try clear ho0)))
          go_loopg [20] k2 (fun kq v20 w' => ∃ (x20_3 : Int), v20 = .int .i64 x20_3 ∧ Aside0 (laws_FnSessions.l1 kq t409 t417 t430 t433 t442 t450 t451 t452 x20_3 = some r) ∧ Aside0 (kq ≤ k2) ∧ Aside0 (Kd.R (Kd.int .i64) 3 w' w.heap.size (fun _ => True) (.slice Ao11 t409.length co11) t409) ∧ Aside0 (Kd.R k105 105 w' w.heap.size (fun k_ => some k_ ≠ (v431 : Value).ownBlock ∧ some k_ ≠ (v453 : Value).ownBlock) v418 t417) ∧ Aside0 (Kd.R k105 105 w' w.heap.size (fun k_ => some k_ ≠ (v418 : Value).ownBlock ∧ some k_ ≠ (v453 : Value).ownBlock) v431 t430) ∧ Aside0 (Kd.R k105 105 w' w.heap.size (fun k_ => some k_ ≠ (v418 : Value).ownBlock ∧ some k_ ≠ (v431 : Value).ownBlock) v453 t451) ∧ Aside0 (w'.heap[gb412]? = some (.cells #[.int .i64 t406, .int .i64 t407, .int .i64 t408] 48 (0, 0))) ∧ Aside0 (Kd.C (Kd.int .i64) w' Ao11 y435.length y435) ∧ Aside0 (Kd.C (Kd.int .i64) w' A50 y443.length y443) ∧ Aside0 (Below w.heap.size w w'))
          case atStart => exact ⟨(0), (zb1), H', ⟨Nat.le_refl _⟩, ⟨by (with_reducible repeat (first | apply Kd.R_alloc | apply Kd.R_drewN | apply Kd.R_drew)); exact Kd.R_mono HO_4.out (fun _ hk => trivial)⟩, ⟨by (with_reducible repeat (first | apply Kd.R_alloc | apply Kd.R_drewN | apply Kd.R_drew)); exact Kd.R_mono HO_7.out (fun _ hk => ⟨by first | exact hk.2 | exact hk.1.2 | exact hk.1.1.2 | exact hk.1.1.1.2 | exact hk.1.1.1.1.2 | exact hk.1 | exact hk.1.1 | exact hk.1.1.1 | exact hk.1.1.1.1 | exact hk.1.1.1.1.1, by first | exact hk.2 | exact hk.1.2 | exact hk.1.1.2 | exact hk.1.1.1.2 | exact hk.1.1.1.1.2 | exact hk.1 | exact hk.1.1 | exact hk.1.1.1 | exact hk.1.1.1.1 | exact hk.1.1.1.1.1⟩)⟩, ⟨by (with_reducible repeat (first | apply Kd.R_alloc | apply Kd.R_drewN | apply Kd.R_drew)); exact Kd.R_mono HO432.out (fun _ hk => ⟨by first | exact hk.2 | exact hk.1.2 | exact hk.1.1.2 | exact hk.1.1.1.2 | exact hk.1.1.1.1.2 | exact hk.1 | exact hk.1.1 | exact hk.1.1.1 | exact hk.1.1.1.1 | exact hk.1.1.1.1.1, by first | exact hk.2 | exact hk.1.2 | exact hk.1.1.2 | exact hk.1.1.1.2 | exact hk.1.1.1.1.2 | exact hk.1 | exact hk.1.1 | exact hk.1.1.1 | exact hk.1.1.1.1 | exact hk.1.1.1.1.1⟩)⟩, ⟨by (with_reducible repeat (first | apply Kd.R_alloc | apply Kd.R_drewN | apply Kd.R_drew)); exact Kd.R_mono HO454.out (fun _ hk => ⟨by first | exact hk.2 | exact hk.1.2 | exact hk.1.1.2 | exact hk.1.1.1.2 | exact hk.1.1.1.1.2 | exact hk.1 | exact hk.1.1 | exact hk.1.1.1 | exact hk.1.1.1.1 | exact hk.1.1.1.1.1, by first | exact hk.2 | exact hk.1.2 | exact hk.1.1.2 | exact hk.1.1.1.2 | exact hk.1.1.1.1.2 | exact hk.1 | exact hk.1.1 | exact hk.1.1.1 | exact hk.1.1.1.1 | exact hk.1.1.1.1.1⟩)⟩, ⟨zb96⟩, ⟨zb102⟩, ⟨zb104⟩, ⟨zb95⟩⟩
          case round =>
           clear H'
           try clear c1
           try clear c2
           try clear p2
           try clear c3
           try clear c4
           try clear p4
           try clear q4
           try clear hx4
           try clear c5
           try clear q5
           try clear c6
           try clear p6
           try clear c8
           try clear c15
           try clear c15b0
           try clear c15b1
           try clear c15b2
           try clear c17
           try clear c22
           try clear c23
           try clear c23b0
           try clear c23b1
           try clear c23b2
           try clear c25
           try clear c26
           try clear c27
           try clear c29
           try clear c29b0
           try clear c30
           try clear c30b0
           try clear c31
           try clear c31b0
           try clear c32
           try clear c36
           try clear c36b0
           try clear c36b1
           try clear c37
           try clear c37b0
           try clear c37b1
           try clear c39
           try clear c39b0
           try clear c40
           try clear c40b0
           try clear p42
           try clear q42
           try clear hx42
           try clear q47
           try clear c50
           try clear q50
           try clear hcz10_0
           try clear hcz10_1
           try clear hcz10_2
           try clear hcz13_0
           try clear hcz13_1
           try clear hcz13_2
           try clear hcz43_0
           try clear hcz43_1
           try clear hcz43_2
           try clear hfz10_0
           try clear hfz10_1
           try clear hfz10_2
           try clear hfz13_0
           try clear hfz13_1
           try clear hfz13_2
           try clear hfz43_0
           try clear hfz43_1
           try clear hfz43_2
           try clear hx426_0
           try clear p2
           try clear p426
           try clear p6
           try clear q050
           try clear q426
           try clear q47
           try clear q50
           obtain ⟨x20_3, rfl, HA, HK3, HO_4, HO_7, HO_11, HO_18, BK412, HR438, HR446, HB⟩ := hrel
           cases gk with
           | zero => exact absurd HA.out (by simp [laws_FnSessions.l1])
           | succ k3 =>
            have H := HA.out
            clear HA
            simp only [laws_FnSessions.l1] at H
            by_cases c55 : x20_3 < (t409.length : Int)
            ·rw [if_pos c55] at H
             have c55b0 : decide (x20_3 < (t409.length : Int)) = true := decide_eq_true c55
             clear c55
             by_cases c56 : 0 ≤ x20_3
             ·rw [if_pos c56] at H
              have c56b0 : decide (0 ≤ x20_3) = true := decide_eq_true c56
              clear c56
              replace H := Option.bind_eq_some_iff.mp H
              obtain ⟨t456, A570, H⟩ := H
              replace H : (if t456 < 0 then (some false) else (laws_FnSessions.l1 k3 t409 t417 t430 t433 t442 t450 t451 t452 (wrap64 (x20_3 + 1)))) = some r := H
              have A57 := Aside0.mk A570
              clear A570
              by_cases c58 : t456 < 0
              ·rw [if_pos c58] at H
               have c58b0 : decide (t456 < 0) = true := decide_eq_true c58
               clear c58
               obtain rfl := Option.some.inj H
               have p455 : 0 ≤ (x20_3 : Int) := of_decide_eq_true (zb9)
               have q455 : x20_3 < (t409.length : Int) := of_decide_eq_true (zb9)
               obtain ⟨ad455, e455, hx455_0⟩ := Kd.at_int (Kd.R_reads' HO_4.out).2.2 x20_3 p455 q455
               cases e455
               replace p455 := eq_true p455
               replace q455 := eq_true q455
               obtain ⟨Ao59, co59, eo59⟩ := Kd.R_slice HO_7.out
               subst eo59
               go_wp2_with (first | ((with_reducible refine gate_callee (f := 31) rfl ?_); refine goesL_ (some 120) rfl rfl Try.func31 (by kernel_rfl) rfl #[.slice Ao59 t417.length co59, .int .i64 (rd t409 x20_3)] rfl (zb10) ?_; (with_reducible refine (impl_SessAt.calls k3 _ _ t417 (rd t409 x20_3) t456 _ ?side1 ?side2 A57.out).mono ?_); (case side1 => repeat (first | exact (Kd.R_reads' HO_7.out).2.2 | (with_reducible refine Kd.C_alloc ?_ _) | (with_reducible refine Kd.C_drewN ?_ _) | (with_reducible refine Kd.C_drew ?_))); (case side2 => exact (Kd.R_reads' HO_7.out).2.1); rintro e w60 ⟨rfl, hb⟩; refine ⟨_, rfl, ?_⟩; have n0_ := Aside0.mk (Kd.R_below (zb99) hb); have n1_ := Aside0.mk (Kd.R_below (zb55) hb); have n2_ := Aside0.mk (Kd.R_below (zb106) hb); have n3_ := Aside0.mk (Kd.R_below (zb107) hb); have n4_ := Aside0.mk (blk_below (g := gb412) (o := .cells #[.int .i64 t406, .int .i64 t407, .int .i64 t408] 48 (0, 0)) (zb96) hb); have n5_ := Aside0.mk (Kd.C_below (zb102) hb); have n6_ := Aside0.mk (Kd.C_below (zb104) hb); have n7_ := Aside0.mk (below_step (zb95) hb); clear HO_4; clear HO_7; clear HO_11; clear HO_18; clear BK412; clear HR438; clear HR446; clear HB; have HO_4 := n0_; have HO_7 := n1_; have HO_11 := n2_; have HO_18 := n3_; have BK412 := n4_; have HR438 := n5_; have HR446 := n6_; have HB := n7_; clear n0_ n1_ n2_ n3_ n4_ n5_ n6_ n7_; (try clear hb); (try clear hb2); (try clear hk); (try clear hi)))
               go_ret
               exact ⟨zb5, zb95⟩
              ·rw [if_neg c58] at H
               have c58b0 : decide (t456 < 0) = false := decide_eq_false c58
               clear c58
               have H' := Aside0.mk H
               clear H
               have p455 : 0 ≤ (x20_3 : Int) := of_decide_eq_true (zb9)
               have q455 : x20_3 < (t409.length : Int) := of_decide_eq_true (zb9)
               obtain ⟨ad455, e455, hx455_0⟩ := Kd.at_int (Kd.R_reads' HO_4.out).2.2 x20_3 p455 q455
               cases e455
               replace p455 := eq_true p455
               replace q455 := eq_true q455
               obtain ⟨Ao61, co61, eo61⟩ := Kd.R_slice HO_7.out
               subst eo61
               go_wp2_with (first | ((with_reducible refine gate_callee (f := 31) rfl ?_); refine goesL_ (some 120) rfl rfl Try.func31 (by kernel_rfl) rfl #[.slice Ao61 t417.length co61, .int .i64 (rd t409 x20_3)] rfl (zb10) ?_; (with_reducible refine (impl_SessAt.calls k3 _ _ t417 (rd t409 x20_3) t456 _ ?side1 ?side2 A57.out).mono ?_); (case side1 => repeat (first | exact (Kd.R_reads' HO_7.out).2.2 | (with_reducible refine Kd.C_alloc ?_ _) | (with_reducible refine Kd.C_drewN ?_ _) | (with_reducible refine Kd.C_drew ?_))); (case side2 => exact (Kd.R_reads' HO_7.out).2.1); rintro e w62 ⟨rfl, hb⟩; refine ⟨_, rfl, ?_⟩; have n0_ := Aside0.mk (Kd.R_below (zb99) hb); have n1_ := Aside0.mk (Kd.R_below (zb55) hb); have n2_ := Aside0.mk (Kd.R_below (zb106) hb); have n3_ := Aside0.mk (Kd.R_below (zb107) hb); have n4_ := Aside0.mk (blk_below (g := gb412) (o := .cells #[.int .i64 t406, .int .i64 t407, .int .i64 t408] 48 (0, 0)) (zb96) hb); have n5_ := Aside0.mk (Kd.C_below (zb102) hb); have n6_ := Aside0.mk (Kd.C_below (zb104) hb); have n7_ := Aside0.mk (below_step (zb95) hb); clear HO_4; clear HO_7; clear HO_11; clear HO_18; clear BK412; clear HR438; clear HR446; clear HB; have HO_4 := n0_; have HO_7 := n1_; have HO_11 := n2_; have HO_18 := n3_; have BK412 := n4_; have HR438 := n5_; have HR446 := n6_; have HB := n7_; clear n0_ n1_ n2_ n3_ n4_ n5_ n6_ n7_; (try clear hb); (try clear hb2); (try clear hk); (try clear hi)))
               go_roundg k3
               case measure => have := HJ6.out; have := HK2.out; have := HK3.out; omega
               case rel => exact ⟨(wrap64 (x20_3 + 1)), (zb1), H', ⟨by have := HJ6.out; have := HK2.out; have := HK3.out; omega⟩, ⟨zb99⟩, ⟨zb55⟩, ⟨zb106⟩, ⟨zb107⟩, ⟨zb96⟩, ⟨zb102⟩, ⟨zb104⟩, ⟨zb95⟩⟩
             ·rw [if_neg c56] at H
              exact absurd H (by simp)
            ·rw [if_neg c55] at H
             have c55b0 : decide (x20_3 < (t409.length : Int)) = false := decide_eq_false c55
             clear c55
             by_cases c63 : t433 = true
             ·subst c63
              have H1 : (if t442 = true then (if t450 = true then (if t452 = true then ((laws_sameWins.f k3 t430 t417).bind fun t457 => (if t457 = true then ((laws_sameWins.f k3 t451 t417).bind fun t458 => (if t458 = true then ((impl_SessOk.f k3 t417).bind fun t459 => (some t459)) else (some false))) else (some false))) else (some false)) else (some false)) else (some false)) = some r := by rw [if_pos rfl] at H; exact H
              clear H
              have H := H1
              clear H1
              by_cases c64 : t442 = true
              ·subst c64
               have H1 : (if t450 = true then (if t452 = true then ((laws_sameWins.f k3 t430 t417).bind fun t457 => (if t457 = true then ((laws_sameWins.f k3 t451 t417).bind fun t458 => (if t458 = true then ((impl_SessOk.f k3 t417).bind fun t459 => (some t459)) else (some false))) else (some false))) else (some false)) else (some false)) = some r := by rw [if_pos rfl] at H; exact H
               clear H
               have H := H1
               clear H1
               by_cases c65 : t450 = true
               ·subst c65
                have H1 : (if t452 = true then ((laws_sameWins.f k3 t430 t417).bind fun t457 => (if t457 = true then ((laws_sameWins.f k3 t451 t417).bind fun t458 => (if t458 = true then ((impl_SessOk.f k3 t417).bind fun t459 => (some t459)) else (some false))) else (some false))) else (some false)) = some r := by rw [if_pos rfl] at H; exact H
                clear H
                have H := H1
                clear H1
                by_cases c66 : t452 = true
                ·subst c66
                 have H1 : ((laws_sameWins.f k3 t430 t417).bind fun t457 => (if t457 = true then ((laws_sameWins.f k3 t451 t417).bind fun t458 => (if t458 = true then ((impl_SessOk.f k3 t417).bind fun t459 => (some t459)) else (some false))) else (some false))) = some r := by rw [if_pos rfl] at H; exact H
                 clear H
                 have H := H1
                 clear H1
                 replace H := Option.bind_eq_some_iff.mp H
                 obtain ⟨t457, A670, H⟩ := H
                 replace H : (if t457 = true then ((laws_sameWins.f k3 t451 t417).bind fun t458 => (if t458 = true then ((impl_SessOk.f k3 t417).bind fun t459 => (some t459)) else (some false))) else (some false)) = some r := H
                 have A67 := Aside0.mk A670
                 clear A670
                 by_cases c68 : t457 = true
                 ·subst c68
                  have H1 : ((laws_sameWins.f k3 t451 t417).bind fun t458 => (if t458 = true then ((impl_SessOk.f k3 t417).bind fun t459 => (some t459)) else (some false))) = some r := by rw [if_pos rfl] at H; exact H
                  clear H
                  have H := H1
                  clear H1
                  replace H := Option.bind_eq_some_iff.mp H
                  obtain ⟨t458, A690, H⟩ := H
                  replace H : (if t458 = true then ((impl_SessOk.f k3 t417).bind fun t459 => (some t459)) else (some false)) = some r := H
                  have A69 := Aside0.mk A690
                  clear A690
                  by_cases c70 : t458 = true
                  ·subst c70
                   have H1 : ((impl_SessOk.f k3 t417).bind fun t459 => (some t459)) = some r := by rw [if_pos rfl] at H; exact H
                   clear H
                   have H := H1
                   clear H1
                   replace H := Option.bind_eq_some_iff.mp H
                   obtain ⟨t459, A710, H⟩ := H
                   replace H : (some t459) = some r := H
                   have A71 := Aside0.mk A710
                   clear A710
                   obtain rfl := Option.some.inj H
                   obtain ⟨Ao72, co72, eo72⟩ := Kd.R_slice HO_11.out
                   subst eo72
                   obtain ⟨Ao73, co73, eo73⟩ := Kd.R_slice HO_7.out
                   subst eo73
                   go_wp2_with (first | (go_at_call 28; (with_reducible refine (laws_sameWins.calls k3 _ _ t430 _ _ t417 true _ ?side1 ?side2 ?side3 ?side4 A67.out).mono ?_); (case side1 => repeat (first | exact (Kd.R_reads' HO_11.out).2.2 | (with_reducible refine Kd.C_alloc ?_ _) | (with_reducible refine Kd.C_drewN ?_ _) | (with_reducible refine Kd.C_drew ?_))); (case side2 => exact (Kd.R_reads' HO_11.out).2.1); (case side3 => repeat (first | exact (Kd.R_reads' HO_7.out).2.2 | (with_reducible refine Kd.C_alloc ?_ _) | (with_reducible refine Kd.C_drewN ?_ _) | (with_reducible refine Kd.C_drew ?_))); (case side4 => exact (Kd.R_reads' HO_7.out).2.1); rintro e w' ⟨rfl, ⟨nd, rfl⟩⟩; obtain ⟨Ao74, co74, eo74⟩ := Kd.R_slice HO_18.out; subst eo74) | (go_at_call 28; (with_reducible refine (laws_sameWins.calls k3 _ _ t451 _ _ t417 true _ ?side1 ?side2 ?side3 ?side4 A69.out).mono ?_); (case side1 => repeat (first | exact (Kd.R_reads' HO_18.out).2.2 | (with_reducible refine Kd.C_alloc ?_ _) | (with_reducible refine Kd.C_drewN ?_ _) | (with_reducible refine Kd.C_drew ?_))); (case side2 => exact (Kd.R_reads' HO_18.out).2.1); (case side3 => repeat (first | exact (Kd.R_reads' HO_7.out).2.2 | (with_reducible refine Kd.C_alloc ?_ _) | (with_reducible refine Kd.C_drewN ?_ _) | (with_reducible refine Kd.C_drew ?_))); (case side4 => exact (Kd.R_reads' HO_7.out).2.1); rintro e w' ⟨rfl, ⟨nd, rfl⟩⟩) | (go_at_call 32; (with_reducible refine (impl_SessOk.calls k3 _ _ t417 t459 _ ?side1 ?side2 A71.out).mono ?_); (case side1 => repeat (first | exact (Kd.R_reads' HO_7.out).2.2 | (with_reducible refine Kd.C_alloc ?_ _) | (with_reducible refine Kd.C_drewN ?_ _) | (with_reducible refine Kd.C_drew ?_))); (case side2 => exact (Kd.R_reads' HO_7.out).2.1); rintro e w75 ⟨rfl, hb⟩; have n0_ := Aside0.mk (Kd.R_below (zb99) hb); have n1_ := Aside0.mk (Kd.R_below (zb55) hb); have n2_ := Aside0.mk (Kd.R_below (zb106) hb); have n3_ := Aside0.mk (Kd.R_below (zb107) hb); have n4_ := Aside0.mk (blk_below (g := gb412) (o := .cells #[.int .i64 t406, .int .i64 t407, .int .i64 t408] 48 (0, 0)) (zb96) hb); have n5_ := Aside0.mk (Kd.C_below (zb102) hb); have n6_ := Aside0.mk (Kd.C_below (zb104) hb); have n7_ := Aside0.mk (below_step (zb95) hb); clear HO_4; clear HO_7; clear HO_11; clear HO_18; clear BK412; clear HR438; clear HR446; clear HB; have HO_4 := n0_; have HO_7 := n1_; have HO_11 := n2_; have HO_18 := n3_; have BK412 := n4_; have HR438 := n5_; have HR446 := n6_; have HB := n7_; clear n0_ n1_ n2_ n3_ n4_ n5_ n6_ n7_; (try clear hb); (try clear hb2); (try clear hk); (try clear hi)))
                   go_ret
                   exact ⟨zb5, zb95⟩
                  ·replace c70 := Bool.eq_false_iff.mpr c70
                   subst c70
                   have H1 : (some false) = some r := by rw [if_neg (show ¬ (false = true) by decide)] at H; exact H
                   clear H
                   have H := H1
                   clear H1
                   obtain rfl := Option.some.inj H
                   obtain ⟨Ao76, co76, eo76⟩ := Kd.R_slice HO_11.out
                   subst eo76
                   obtain ⟨Ao77, co77, eo77⟩ := Kd.R_slice HO_7.out
                   subst eo77
                   go_wp2_with (first | (go_at_call 28; (with_reducible refine (laws_sameWins.calls k3 _ _ t430 _ _ t417 true _ ?side1 ?side2 ?side3 ?side4 A67.out).mono ?_); (case side1 => repeat (first | exact (Kd.R_reads' HO_11.out).2.2 | (with_reducible refine Kd.C_alloc ?_ _) | (with_reducible refine Kd.C_drewN ?_ _) | (with_reducible refine Kd.C_drew ?_))); (case side2 => exact (Kd.R_reads' HO_11.out).2.1); (case side3 => repeat (first | exact (Kd.R_reads' HO_7.out).2.2 | (with_reducible refine Kd.C_alloc ?_ _) | (with_reducible refine Kd.C_drewN ?_ _) | (with_reducible refine Kd.C_drew ?_))); (case side4 => exact (Kd.R_reads' HO_7.out).2.1); rintro e w' ⟨rfl, ⟨nd, rfl⟩⟩; obtain ⟨Ao78, co78, eo78⟩ := Kd.R_slice HO_18.out; subst eo78) | (go_at_call 28; (with_reducible refine (laws_sameWins.calls k3 _ _ t451 _ _ t417 false _ ?side1 ?side2 ?side3 ?side4 A69.out).mono ?_); (case side1 => repeat (first | exact (Kd.R_reads' HO_18.out).2.2 | (with_reducible refine Kd.C_alloc ?_ _) | (with_reducible refine Kd.C_drewN ?_ _) | (with_reducible refine Kd.C_drew ?_))); (case side2 => exact (Kd.R_reads' HO_18.out).2.1); (case side3 => repeat (first | exact (Kd.R_reads' HO_7.out).2.2 | (with_reducible refine Kd.C_alloc ?_ _) | (with_reducible refine Kd.C_drewN ?_ _) | (with_reducible refine Kd.C_drew ?_))); (case side4 => exact (Kd.R_reads' HO_7.out).2.1); rintro e w' ⟨rfl, ⟨nd, rfl⟩⟩))
                   go_ret
                   exact ⟨zb5, zb95⟩
                 ·replace c68 := Bool.eq_false_iff.mpr c68
                  subst c68
                  have H1 : (some false) = some r := by rw [if_neg (show ¬ (false = true) by decide)] at H; exact H
                  clear H
                  have H := H1
                  clear H1
                  obtain rfl := Option.some.inj H
                  obtain ⟨Ao79, co79, eo79⟩ := Kd.R_slice HO_11.out
                  subst eo79
                  obtain ⟨Ao80, co80, eo80⟩ := Kd.R_slice HO_7.out
                  subst eo80
                  go_wp2_with (first | (go_at_call 28; (with_reducible refine (laws_sameWins.calls k3 _ _ t430 _ _ t417 false _ ?side1 ?side2 ?side3 ?side4 A67.out).mono ?_); (case side1 => repeat (first | exact (Kd.R_reads' HO_11.out).2.2 | (with_reducible refine Kd.C_alloc ?_ _) | (with_reducible refine Kd.C_drewN ?_ _) | (with_reducible refine Kd.C_drew ?_))); (case side2 => exact (Kd.R_reads' HO_11.out).2.1); (case side3 => repeat (first | exact (Kd.R_reads' HO_7.out).2.2 | (with_reducible refine Kd.C_alloc ?_ _) | (with_reducible refine Kd.C_drewN ?_ _) | (with_reducible refine Kd.C_drew ?_))); (case side4 => exact (Kd.R_reads' HO_7.out).2.1); rintro e w' ⟨rfl, ⟨nd, rfl⟩⟩))
                  go_ret
                  exact ⟨zb5, zb95⟩
                ·replace c66 := Bool.eq_false_iff.mpr c66
                 subst c66
                 have H1 : (some false) = some r := by rw [if_neg (show ¬ (false = true) by decide)] at H; exact H
                 clear H
                 have H := H1
                 clear H1
                 obtain rfl := Option.some.inj H
                 go_wp2
                 go_ret
                 exact ⟨zb5, zb95⟩
               ·replace c65 := Bool.eq_false_iff.mpr c65
                subst c65
                have H1 : (some false) = some r := by rw [if_neg (show ¬ (false = true) by decide)] at H; exact H
                clear H
                have H := H1
                clear H1
                obtain rfl := Option.some.inj H
                go_wp2
                go_ret
                exact ⟨zb5, zb95⟩
              ·replace c64 := Bool.eq_false_iff.mpr c64
               subst c64
               have H1 : (some false) = some r := by rw [if_neg (show ¬ (false = true) by decide)] at H; exact H
               clear H
               have H := H1
               clear H1
               obtain rfl := Option.some.inj H
               go_wp2
               go_ret
               exact ⟨zb5, zb95⟩
             ·replace c63 := Bool.eq_false_iff.mpr c63
              subst c63
              have H1 : (some false) = some r := by rw [if_neg (show ¬ (false = true) by decide)] at H; exact H
              clear H
              have H := H1
              clear H1
              obtain rfl := Option.some.inj H
              go_wp2
              go_ret
              exact ⟨zb5, zb95⟩
         ·rw [if_neg c37] at H
          exact absurd H (by simp)
        ·rw [if_neg c36] at H
         exact absurd H (by simp)

/-- THE ONE PURE STATEMENT of laws_FnSessions: yours. -/
def laws_FnSessions.Pure : Prop := ∀ (l0 : List Int), l0.length ≤ maxLen → l0.length * 1 ≤ 140737488351232 → (∀ x ∈ l0, (Lit.int .u8 x).wf = true) → ∃ k, laws_FnSessions.f k l0 = some true
theorem laws_FnSessions.walk (P : laws_FnSessions.Pure) (a0 : Option Addr) (len0 cap0 : Nat) (z0 : List Int) (w : World) (w0 : (a0 = none ∧ len0 = 0 ∧ cap0 = 0 ∧ z0 = []) ∨ ∃ x, a0 = some x ∧ len0 ≤ cap0 ∧ cap0 ≤ maxLen ∧ z0.length = cap0 ∧ (∀ i, i < z0.length → w.cell? (x.add i) = some (.int .u8 (z0.getD i 0))) ∧ ∀ n ∈ z0, (Lit.int .u8 n).wf = true) (y0 : len0 * 1 ≤ 140737488351232) :
  Calls Try.prog 6 #[.slice a0 len0 cap0] w fun e w' => e = .returned (.bool true) ∧ Below w.heap.size w w' := by
 obtain ⟨l0, rfl, hr0, hm0, hw0, hc0⟩ := ReadsInt.ofRowC w0
 obtain ⟨k, h⟩ := P l0 hm0 y0 hw0
 refine (laws_FnSessions.calls k _ _ l0 true w (Kd.C_of_reads (d := (0 : Int)) (h1 := fun _ => rfl) hr0) hc0 h).mono ?_
 rintro e w' ⟨rfl, hd⟩
 exact ⟨rfl, hd⟩

end Go.Proofs.Ytkikbhcicpkhgaa.PFnSessions
