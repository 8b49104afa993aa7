/- The row of the law FnExactImageOf: for every input the call returns true and the input reads as before; no condition is added to the given statement. -/
import Derived.Test.YtenocjjbfkgflaaRows
import Derived.WalkKit
import Derived.ProofKit
import Derived.OpenShut
import Derived.ShutString
import Derived.ChangeOld
import Derived.Below
import Derived.SizedLaws
import Derived.Test.YtenocjjbfkgflaaXSD
import Derived.Test.YtenocjjbfkgflaaXEng27
namespace Go.Proofs.Ytenocjjbfkgflaa.fnExactImageOf
open Go.ChangeShapes Go.WideShapes Go.ChangeAt Go.RowKit Go.Eng Go.Eng.T Go.Eng.S
theorem own : ownKnob Try.prog.godebug = none := by kernel_rfl
theorem laidOut : laidOutB Try.prog = true := by kernel_rfl
set_option maxRecDepth 100000 in
theorem walk (g : Int) (a : Option Addr) (len cap : Nat) (ops : List OpR) (w : World) (h : IsOps w a len cap ops) :
    Calls Try.prog 4 #[.int .i64 g, .slice a len cap] w fun e w' => e = .returned (.bool true) ∧ Below w.heap.size w w' := by
  have hb : Try.f4.body.isSome = true := by kernel_rfl
  have hn : (Try.f4.name == "runtime.NumGoroutine") = false := by kernel_rfl
  have hints : ∀ o ∈ ops, o.ints := by
    rcases h with ⟨_, _, _, rfl⟩ | ⟨_, _, _, _, _, h, _⟩
    · exact fun _ h => nomatch h
    · exact h
  have hlen : ops.length ≤ 9223372036854775807 := by
    rcases h with ⟨_, _, _, rfl⟩ | ⟨_, _, h1, h2, h3, _, _⟩
    · simp
    · rw [h3]; exact Nat.le_trans h1 h2
  have hac : AC Try.prog 4 [iv g, .is 11 (ops.map encOp)] [] (fun r _ _ => r = .lit (.bool true)) := FnExactImageOf.ac g ops hints hlen rfl
  refine AC.enter Try.func4 hb hn hac (opsF_some h) rfl fun i y hi hy => ?_
  match i, hi with
  | 0, _ =>
    obtain rfl : iv g = y := by simpa using hy
    exact .lit
  | 1, _ =>
    obtain rfl : V.is 11 (ops.map encOp) = y := by simpa using hy
    exact rep_ops h fun x hx j c hj hc => ⟨x, j, c, hx, hj, hc, rfl, rfl⟩
  | i + 2, hi => simp at hi; omega
set_option maxRecDepth 100000 in
theorem lifted (os : Os) (started : os.Started) (H : Type) (enc : TypeId × Value → H) :
    ReturnsInHanded {} Try.checked os 4 .any (Rows.fnExactImageOfSpec.pre6 enc Try.prog Try.f4 Rows.fnExactImageOfRow.domain false) (Rows.fnExactImageOfSpec.post enc Try.prog Try.f4 false true false false) := by
  refine returnsInHanded_of_change_sized (C := Try.checked) own started (by kernel_rfl) Try.func4
    (ChangeSpec.witness6 (enc := enc) (C := Try.checked) false ⟨#[], #[.int .i64 0, .slice none 0 0], []⟩ 8 (by kernel_rfl) (by kernel_rfl) (by kernel_rfl) (by kernel_rfl)) ?_
  intro W base args ds gs before hval0 hW hcnd _ _
  have hval : ∀ (j : Nat) t v, Try.f4.params[j]? = some t → args[j]? = some v → Value.okWide Try.prog W .any base t v := hval0
  have hW' := hW
  obtain ⟨p, q, hA0, hV, rfl, hfz, hnd⟩ := hW
  have hA : DataW.TrodAll enc Try.prog W 0 (fun _ => true) true Try.f4.params.toList args.toList ds p := hA0
  rw [Try.params4] at hA hval
  obtain ⟨v0, vs0, d0, ds0, p0, q0, hargs, rfl, rfl, h0, r0⟩ := trodAll_cons hA
  obtain ⟨v1, vs1, d1, ds1, p1, q1, rfl, rfl, rfl, h1, r1⟩ := trodAll_cons r0
  obtain ⟨rfl, rfl, rfl⟩ := trodAll_nil r1
  obtain rfl : args = #[v0, v1] := by cases args; simp_all
  obtain ⟨rfl, rfl⟩ := trodVars_none hV
  obtain ⟨g, rfl⟩ := okWide_int Try.underlying3 (hval 0 3 v0 rfl rfl)
  have k0 := h0
  have k1 := h1
  have lt0 : ∀ x ∈ p0, x.block < W.heap.size := by obtain ⟨m, hm⟩ := k0; exact DataW.trod_lt m _ _ _ hm
  have lt1 : ∀ x ∈ p1, x.block < W.heap.size := by obtain ⟨m, hm⟩ := k1; exact DataW.trod_lt m _ _ _ hm
  obtain ⟨a1, len1, cap1, rfl⟩ := okWide_slice Try.underlying39 (hval 1 39 v1 rfl rfl)
  obtain ⟨ops, w1⟩ : ∃ ops, IsOps W a1 len1 cap1 ops := by
    obtain ⟨fuel, hf⟩ := h1
    obtain ⟨a, len, cap, ops, hcs, ho⟩ := open_ops hf
    simp [Value.cells] at hcs
    obtain ⟨rfl, rfl, rfl⟩ := hcs
    exact ⟨ops, ho⟩
  clear hA0 hval0
  refine (walk g a1 len1 cap1 ops W w1).mono fun e W' ⟨he, bel⟩ => ?_
  subst he
  exact ⟨_, rfl, _, _, _, [], _, [], hW', trodAll_mk1 (shut_bool Try.underlying4 _),
    (trodAll_cons_mk (Below.trod laidOut (by kernel_rfl) (of_decide_eq_true (by kernel_rfl)) k0 bel lt0) (trodAll_cons_mk (Below.trod laidOut (by kernel_rfl) (of_decide_eq_true (by kernel_rfl)) k1 bel lt1) trodAll_mk0)), rfl, bel.frame _, fun h => by cases h⟩
theorem over : Rows.fnExactImageOfRow.holds Try.pinned (OpenSpec.ofChange Rows.fnExactImageOfSpec) :=
  OpenClaim.holds_of_wide 4 Try.f4 rfl rfl rfl rfl rfl rfl rfl ⟨rfl, rfl, rfl, rfl, rfl⟩ rfl rfl rfl rfl rfl (by kernel_rfl) Try.func4 (by kernel_rfl)
    (of_decide_eq_true (by kernel_rfl)) (by unfold Func.isWrapper; first | (rw [if_pos (by decide +kernel)]; kernel_rfl) | (rw [if_neg (by decide +kernel)]; exact ⟨rfl, rfl⟩))
    (fun os started H enc _ => lifted os started H enc)
theorem proved : Rows.FnExactImageOfSaid := over
end Go.Proofs.Ytenocjjbfkgflaa.fnExactImageOf
namespace Go.Proofs.Ytenocjjbfkgflaa
-- The row, under a short name, for the claim.
theorem fnExactImageOf_holds : Rows.FnExactImageOfSaid := fnExactImageOf.proved
end Go.Proofs.Ytenocjjbfkgflaa
