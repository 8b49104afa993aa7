/- The row of the law FnExactSlotsPut: for every input the call returns true and the input reads as before; no condition is added to the given statement. -/
import Derived.Test.YtenocjjbfkgflaaRows
import Derived.WalkKit
import Derived.ProofKit
import Derived.OpenShut
import Derived.ShutString
import Derived.ChangeOld
import Derived.Below
import Derived.SizedLaws
import Derived.Test.YtenocjjbfkgflaaXSF
import Derived.Test.YtenocjjbfkgflaaXEng27
namespace Go.Proofs.Ytenocjjbfkgflaa.fnExactSlotsPut
open Go.ChangeShapes Go.WideShapes Go.ChangeAt Go.RowKit Go.Eng Go.Eng.T Go.Eng.S Go.Joins
theorem own : ownKnob Try.prog.godebug = none := by kernel_rfl
theorem laidOut : laidOutB Try.prog = true := by kernel_rfl
theorem cells48 : Try.prog.cellsOf 48 = 2 := by kernel_rfl
set_option maxRecDepth 100000 in
theorem walk (a0 a1 : Option Addr) (l0 c0 l1 c1 : Nat) (z0 z1 : List Int) (a : Option Addr) (len cap : Nat) (ops : List OpR) (n : Int) (w : World) (h0 : IsRow .u8 w a0 l0 c0 z0) (h1 : IsRow .u8 w a1 l1 c1 z1) (h2 : IsOps w a len cap ops) :
    Calls Try.prog 7 #[.agg #[.slice a0 l0 c0, .slice a1 l1 c1], .slice a len cap, .int .i64 n] w fun e w' => e = .returned (.bool true) ∧ Below w.heap.size w w' := by
  have hb : Try.f7.body.isSome = true := by kernel_rfl
  have hn : (Try.f7.name == "runtime.NumGoroutine") = false := by kernel_rfl
  obtain ⟨D, E, hd, he, hl, hs, hr⟩ := slots_rep h0 h1
  have hints : ∀ o ∈ ops, o.ints := by
    rcases h2 with ⟨_, _, _, rfl⟩ | ⟨_, _, _, _, _, h, _⟩
    · exact fun _ h => nomatch h
    · exact h
  have hlen : ops.length ≤ 9223372036854775807 := by
    rcases h2 with ⟨_, _, _, rfl⟩ | ⟨_, _, h1, h2, h3, _, _⟩
    · simp
    · rw [h3]; exact Nat.le_trans h1 h2
  have hac : AC Try.prog 7 [slV D E, .is 11 (ops.map encOp), iv n] [] (fun r _ _ => r = .lit (.bool true)) := FnExactSlotsPut.ac D E ops n hd he hints hl.1 hl.2 hlen rfl
  refine AC.enter Try.func7 hb hn hac (F := fun b o => (rowF a0 l0 b o ∨ rowF a1 l1 b o) ∨ opsF a len b o) (fun b o h => h.elim (hs b o) (opsF_some h2 b o)) rfl fun i y hi hy => ?_
  match i, hi with
  | 0, _ =>
    obtain rfl : slV D E = y := by simpa using hy
    exact hr fun b o h => .inl h
  | 1, _ =>
    obtain rfl : V.is 11 (ops.map encOp) = y := by simpa using hy
    exact rep_ops h2 fun x hx j c hj hc => .inr ⟨x, j, c, hx, hj, hc, rfl, rfl⟩
  | 2, _ =>
    obtain rfl : iv n = y := by simpa using hy
    exact .lit
  | i + 3, hi => simp at hi; omega
set_option maxRecDepth 100000 in
theorem lifted (os : Os) (started : os.Started) (H : Type) (enc : TypeId × Value → H) :
    ReturnsInHanded {} Try.checked os 7 .any (Rows.fnExactSlotsPutSpec.pre6 enc Try.prog Try.f7 Rows.fnExactSlotsPutRow.domain false) (Rows.fnExactSlotsPutSpec.post enc Try.prog Try.f7 false true false false) := by
  refine returnsInHanded_of_change_sized (C := Try.checked) own started (by kernel_rfl) Try.func7
    (ChangeSpec.witness6 (enc := enc) (C := Try.checked) false ⟨#[], #[.agg #[.slice none 0 0, .slice none 0 0], .slice none 0 0, .int .i64 0], []⟩ 8 (by kernel_rfl) (by kernel_rfl) (by kernel_rfl) (by kernel_rfl)) ?_
  intro W base args ds gs before hval0 hW hcnd _ _
  have hval : ∀ (j : Nat) t v, Try.f7.params[j]? = some t → args[j]? = some v → Value.okWide Try.prog W .any base t v := hval0
  have hW' := hW
  obtain ⟨p, q, hA0, hV, rfl, hfz, hnd⟩ := hW
  have hA : DataW.TrodAll enc Try.prog W 0 (fun _ => true) true Try.f7.params.toList args.toList ds p := hA0
  rw [Try.params7] at hA hval
  obtain ⟨v0, vs0, d0, ds0, p0, q0, hargs, rfl, rfl, h0, r0⟩ := trodAll_cons hA
  obtain ⟨v1, vs1, d1, ds1, p1, q1, rfl, rfl, rfl, h1, r1⟩ := trodAll_cons r0
  obtain ⟨v2, vs2, d2, ds2, p2, q2, rfl, rfl, rfl, h2, r2⟩ := trodAll_cons r1
  obtain ⟨rfl, rfl, rfl⟩ := trodAll_nil r2
  obtain rfl : args = #[v0, v1, v2] := by cases args; simp_all
  obtain ⟨rfl, rfl⟩ := trodVars_none hV
  have k0 := h0
  have k1 := h1
  have k2 := h2
  have lt0 : ∀ x ∈ p0, x.block < W.heap.size := by obtain ⟨m, hm⟩ := k0; exact DataW.trod_lt m _ _ _ hm
  have lt1 : ∀ x ∈ p1, x.block < W.heap.size := by obtain ⟨m, hm⟩ := k1; exact DataW.trod_lt m _ _ _ hm
  have lt2 : ∀ x ∈ p2, x.block < W.heap.size := by obtain ⟨m, hm⟩ := k2; exact DataW.trod_lt m _ _ _ hm
  obtain ⟨n, rfl⟩ := okWide_int Try.underlying3 (hval 2 3 v2 rfl rfl)
  obtain ⟨a2, len2, cap2, rfl⟩ := okWide_slice Try.underlying39 (hval 1 39 v1 rfl rfl)
  obtain ⟨ops, w2⟩ : ∃ ops, IsOps W a2 len2 cap2 ops := by
    obtain ⟨fuel, hf⟩ := h1
    obtain ⟨a, len, cap, ops, hcs, ho⟩ := open_ops hf
    simp [Value.cells] at hcs
    obtain ⟨rfl, rfl, rfl⟩ := hcs
    exact ⟨ops, ho⟩
  obtain ⟨c0, c1, y0, y1, m, hv, _, _, hy0, hy1⟩ := open_agg2 Try.underlying48 (by kernel_rfl) cells48 (hval 0 48 v0 rfl rfl) h0
  obtain ⟨a0, len0, cap0, z0, e0, w0⟩ := row_of hy0
  obtain ⟨a1, len1, cap1, z1, e1, w1⟩ := row_of hy1
  subst e0 e1 hv
  clear hA0 hval0
  refine (walk a0 a1 len0 cap0 len1 cap1 z0 z1 a2 len2 cap2 ops n W w0 w1 w2).mono fun e W' ⟨he, bel⟩ => ?_
  subst he
  exact ⟨_, rfl, _, _, _, [], _, [], hW', trodAll_mk1 (shut_bool Try.underlying4 _), (trodAll_cons_mk (Below.trod laidOut (by kernel_rfl) (of_decide_eq_true (by kernel_rfl)) k0 bel lt0) (trodAll_cons_mk (Below.trod laidOut (by kernel_rfl) (of_decide_eq_true (by kernel_rfl)) k1 bel lt1) (trodAll_cons_mk (Below.trod laidOut (by kernel_rfl) (of_decide_eq_true (by kernel_rfl)) k2 bel lt2) trodAll_mk0))), rfl, bel.frame _, fun h => by cases h⟩
theorem over : Rows.fnExactSlotsPutRow.holds Try.pinned (OpenSpec.ofChange Rows.fnExactSlotsPutSpec) :=
  OpenClaim.holds_of_wide 7 Try.f7 rfl rfl rfl rfl rfl rfl rfl ⟨rfl, rfl, rfl, rfl, rfl⟩ rfl rfl rfl rfl rfl (by kernel_rfl) Try.func7 (by kernel_rfl)
    (of_decide_eq_true (by kernel_rfl)) (by unfold Func.isWrapper; first | (rw [if_pos (by decide +kernel)]; kernel_rfl) | (rw [if_neg (by decide +kernel)]; exact ⟨rfl, rfl⟩))
    (fun os started H enc _ => lifted os started H enc)
theorem proved : Rows.FnExactSlotsPutSaid := over
end Go.Proofs.Ytenocjjbfkgflaa.fnExactSlotsPut
namespace Go.Proofs.Ytenocjjbfkgflaa
-- The row, under a short name, for the claim.
theorem fnExactSlotsPut_holds : Rows.FnExactSlotsPutSaid := fnExactSlotsPut.proved
end Go.Proofs.Ytenocjjbfkgflaa
