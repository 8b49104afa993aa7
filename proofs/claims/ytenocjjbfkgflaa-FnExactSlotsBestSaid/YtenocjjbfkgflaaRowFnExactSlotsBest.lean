/- The row of the law FnExactSlotsBest: for every input the call returns true and the input reads as before; no condition is added to the given statement. -/
import Derived.Test.YtenocjjbfkgflaaRows
import Derived.WalkKit
import Derived.ProofKit
import Derived.OpenShut
import Derived.ShutString
import Derived.ChangeOld
import Derived.Below
import Derived.SizedLaws
import Derived.Test.YtenocjjbfkgflaaXSF
import Derived.Test.YtenocjjbfkgflaaXEng27
namespace Go.Proofs.Ytenocjjbfkgflaa.fnExactSlotsBest
open Go.ChangeShapes Go.WideShapes Go.ChangeAt Go.RowKit Go.Eng Go.Eng.T Go.Eng.S Go.Joins
theorem own : ownKnob Try.prog.godebug = none := by kernel_rfl
theorem laidOut : laidOutB Try.prog = true := by kernel_rfl
theorem cells48 : Try.prog.cellsOf 48 = 2 := by kernel_rfl
set_option maxRecDepth 100000 in
theorem walk (a0 a1 : Option Addr) (l0 c0 l1 c1 : Nat) (z0 z1 : List Int) (w : World) (h0 : IsRow .u8 w a0 l0 c0 z0) (h1 : IsRow .u8 w a1 l1 c1 z1) :
    Calls Try.prog 6 #[.agg #[.slice a0 l0 c0, .slice a1 l1 c1]] w fun e w' => e = .returned (.bool true) ∧ Below w.heap.size w w' := by
  have hb : Try.f6.body.isSome = true := by kernel_rfl
  have hn : (Try.f6.name == "runtime.NumGoroutine") = false := by kernel_rfl
  obtain ⟨D, E, hd, he, hl, hs, hr⟩ := slots_rep h0 h1
  have hac : AC Try.prog 6 [slV D E] [] (fun r _ _ => r = .lit (.bool true)) := FnExactSlotsBest.ac D E hd he hl.1 hl.2 rfl
  refine AC.enter Try.func6 hb hn hac hs rfl fun i y hi hy => ?_
  match i, hi with
  | 0, _ =>
    obtain rfl : slV D E = y := by simpa using hy
    exact hr fun b o h => h
  | i + 1, hi => simp at hi
set_option maxRecDepth 100000 in
theorem lifted (os : Os) (started : os.Started) (H : Type) (enc : TypeId × Value → H) :
    ReturnsInHanded {} Try.checked os 6 .any (Rows.fnExactSlotsBestSpec.pre6 enc Try.prog Try.f6 Rows.fnExactSlotsBestRow.domain false) (Rows.fnExactSlotsBestSpec.post enc Try.prog Try.f6 false true false false) := by
  refine returnsInHanded_of_change_sized (C := Try.checked) own started (by kernel_rfl) Try.func6
    (ChangeSpec.witness6 (enc := enc) (C := Try.checked) false ⟨#[], #[.agg #[.slice none 0 0, .slice none 0 0]], []⟩ 8 (by kernel_rfl) (by kernel_rfl) (by kernel_rfl) (by kernel_rfl)) ?_
  intro W base args ds gs before hval0 hW hcnd _ _
  have hval : ∀ (j : Nat) t v, Try.f6.params[j]? = some t → args[j]? = some v → Value.okWide Try.prog W .any base t v := hval0
  have hW' := hW
  obtain ⟨p, q, hA0, hV, rfl, hfz, hnd⟩ := hW
  have hA : DataW.TrodAll enc Try.prog W 0 (fun _ => true) true Try.f6.params.toList args.toList ds p := hA0
  rw [Try.params6] at hA hval
  obtain ⟨v0, vs0, d0, ds0, p0, q0, hargs, rfl, rfl, h0, r0⟩ := trodAll_cons hA
  obtain ⟨rfl, rfl, rfl⟩ := trodAll_nil r0
  obtain rfl : args = #[v0] := by cases args; simp_all
  obtain ⟨rfl, rfl⟩ := trodVars_none hV
  have k0 := h0
  have lt0 : ∀ x ∈ p0, x.block < W.heap.size := by obtain ⟨m, hm⟩ := k0; exact DataW.trod_lt m _ _ _ hm
  obtain ⟨c0, c1, y0, y1, m, hv, _, _, hy0, hy1⟩ := open_agg2 Try.underlying48 (by kernel_rfl) cells48 (hval 0 48 v0 rfl rfl) h0
  obtain ⟨a0, len0, cap0, z0, e0, w0⟩ := row_of hy0
  obtain ⟨a1, len1, cap1, z1, e1, w1⟩ := row_of hy1
  subst e0 e1 hv
  clear hA0 hval0
  refine (walk a0 a1 len0 cap0 len1 cap1 z0 z1 W w0 w1).mono fun e W' ⟨he, bel⟩ => ?_
  subst he
  exact ⟨_, rfl, _, _, _, [], _, [], hW', trodAll_mk1 (shut_bool Try.underlying4 _), (trodAll_cons_mk (Below.trod laidOut (by kernel_rfl) (of_decide_eq_true (by kernel_rfl)) k0 bel lt0) trodAll_mk0), rfl, bel.frame _, fun h => by cases h⟩
theorem over : Rows.fnExactSlotsBestRow.holds Try.pinned (OpenSpec.ofChange Rows.fnExactSlotsBestSpec) :=
  OpenClaim.holds_of_wide 6 Try.f6 rfl rfl rfl rfl rfl rfl rfl ⟨rfl, rfl, rfl, rfl, rfl⟩ rfl rfl rfl rfl rfl (by kernel_rfl) Try.func6 (by kernel_rfl)
    (of_decide_eq_true (by kernel_rfl)) (by unfold Func.isWrapper; first | (rw [if_pos (by decide +kernel)]; kernel_rfl) | (rw [if_neg (by decide +kernel)]; exact ⟨rfl, rfl⟩))
    (fun os started H enc _ => lifted os started H enc)
theorem proved : Rows.FnExactSlotsBestSaid := over
end Go.Proofs.Ytenocjjbfkgflaa.fnExactSlotsBest
namespace Go.Proofs.Ytenocjjbfkgflaa
-- The row, under a short name, for the claim.
theorem fnExactSlotsBest_holds : Rows.FnExactSlotsBestSaid := fnExactSlotsBest.proved
end Go.Proofs.Ytenocjjbfkgflaa
