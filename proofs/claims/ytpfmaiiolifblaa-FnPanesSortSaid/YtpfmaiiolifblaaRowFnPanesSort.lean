/- The row of the law FnPanesSort: for every input the call returns true and the input reads as before; no condition is added to the given statement. -/
import Derived.Test.YtpfmaiiolifblaaRows
import Derived.Test.YtpfmaiiolifblaaXLwSort
import Derived.Test.YtpfmaiiolifblaaXEng27
import Derived.WalkKit
import Derived.ProofKit
import Derived.OpenShut
import Derived.ShutString
import Derived.ChangeOld
import Derived.Below
import Derived.SizedLaws
namespace Go.Proofs.Ytpfmaiiolifblaa.fnPanesSort
open Go.ChangeShapes Go.WideShapes Go.ChangeAt Go.RowKit Go.Eng Go.Eng.T
theorem own : ownKnob Try.prog.godebug = none := by kernel_rfl
theorem laidOut : laidOutB Try.prog = true := by kernel_rfl
def IsRow (k : IntKind) (w : World) (a : Option Addr) (len cap : Nat) (zs : List Int) : Prop :=
  (a = none ∧ len = 0 ∧ cap = 0 ∧ zs = []) ∨
  ∃ x, a = some x ∧ len ≤ cap ∧ cap ≤ maxLen ∧ zs.length = cap ∧ (∀ i, i < zs.length → w.cell? (x.add i) = some (.int k (zs.getD i 0))) ∧ ∀ n ∈ zs, (Lit.int k n).wf = true
theorem spot_none {w : World} {x : Addr} {v : Value} (h : w.cell? (x.add 0) = some v) : x.spot = none := by
  obtain ⟨b, o, s⟩ := x
  cases s with
  | none => rfl
  | some s => simp [World.cell?, Addr.add] at h; split at h <;> simp_all
set_option maxRecDepth 100000 in
theorem walk (a : Option Addr) (len cap : Nat) (zs : List Int) (w : World) (h : IsRow .u8 w a len cap zs) :
    Calls Try.prog 9 #[.slice a len cap] w fun e w' => e = .returned (.bool true) ∧ Below w.heap.size w w' := by
  have hb : Try.f9.body.isSome = true := by kernel_rfl
  have hn : (Try.f9.name == "runtime.NumGoroutine") = false := by kernel_rfl
  have enter : ∀ (D : List Int), Bytes D → ∀ {F : Cells} {w : World} {cargs : Array Value}, (∀ b o, F b o → (memOf w b o).isSome) → cargs.size = [V.is 1 (D.map encB)].length →
      (∀ (i : Nat) x (hi : i < cargs.size), [V.is 1 (D.map encB)][i]? = some x → RepV F (memOf w) noPl x cargs[i]) → Calls Try.prog 9 cargs w fun e w' => e = .returned (.bool true) ∧ Below w.heap.size w w' :=
    fun D hd _ _ _ h1 h2 h3 => by
      have h : AC Try.prog 9 [.is 1 (D.map encB)] [] (fun r _ _ => r = .lit (.bool true)) := FnPanesSort.ac D hd (by exact rfl)
      exact AC.enter Try.func9 hb hn h h1 h2 h3
  have byteOk : ∀ n : Int, (Lit.int .u8 n).wf = true → 0 ≤ n ∧ n ≤ 255 := fun n hn => by
    have h1 : IntKind.u8.min = 0 := by decide
    have h2 : IntKind.u8.max = 255 := by decide
    simp only [Lit.wf, Bool.and_eq_true, decide_eq_true_eq] at hn
    omega
  rcases h with ⟨rfl, rfl, rfl, rfl⟩ | ⟨x, rfl, hl, hm, hz, hc, hw⟩
  · refine enter [] (fun _ h => nomatch h) (F := fun _ _ => False) (fun _ _ h => h.elim) rfl fun i y hi hy => ?_
    have : i = 0 := by simp at hi; omega
    subst this
    simp at hy; subst hy
    exact .isn
  · by_cases h0 : len = 0
    · subst h0
      refine enter [] (fun _ h => nomatch h) (F := fun _ _ => False) (fun _ _ h => h.elim) rfl fun i y hi hy => ?_
      have : i = 0 := by simp at hi; omega
      subst this
      simp at hy; subst hy
      exact RepV.is (es := []) (a := x) (cap := cap) (n := 1) (fun _ _ => undef) (Nat.zero_le _) (fun h => absurd rfl h) (fun j e he => by simp at he) (fun j e c y he => by simp at he) (fun j e c y he => by simp at he)
    · have hx : x.spot = none := spot_none (hc 0 (by omega))
      obtain ⟨r1, r2⟩ := rep_ints (k := .u8) zs hx hl (by omega) (fun i hi => hc i (by omega))
      refine enter (zs.take len) (fun n hn => byteOk n (hw n (List.mem_of_mem_take hn))) r1 rfl fun i y hi hy => ?_
      have : i = 0 := by simp at hi; omega
      subst this
      obtain rfl : V.is 1 ((zs.take len).map encB) = y := by simpa only [List.getElem?_cons_zero, Option.some.injEq] using hy
      exact r2
set_option maxRecDepth 100000 in
theorem lifted (os : Os) (started : os.Started) (H : Type) (enc : TypeId × Value → H) :
    ReturnsInHanded {} Try.checked os 9 .any (Rows.fnPanesSortSpec.pre6 enc Try.prog Try.f9 Rows.fnPanesSortRow.domain false) (Rows.fnPanesSortSpec.post enc Try.prog Try.f9 false true false false) := by
  refine returnsInHanded_of_change_sized (C := Try.checked) own started (by kernel_rfl) Try.func9
    (ChangeSpec.witness6 (enc := enc) (C := Try.checked) false ⟨#[], #[.slice none 0 0], []⟩ 8 (by kernel_rfl) (by kernel_rfl) (by kernel_rfl) (by kernel_rfl)) ?_
  intro W base args ds gs before hval0 hW hcnd _ _
  have hval : ∀ (j : Nat) t v, Try.f9.params[j]? = some t → args[j]? = some v → Value.okWide Try.prog W .any base t v := hval0
  have hW' := hW
  obtain ⟨p, q, hA0, hV, rfl, hfz, hnd⟩ := hW
  have hA : DataW.TrodAll enc Try.prog W 0 (fun _ => true) true Try.f9.params.toList args.toList ds p := hA0
  rw [Try.params9] at hA hval
  obtain ⟨v0, vs0, d0, ds0, p0, q0, hargs, rfl, rfl, h0, r0⟩ := trodAll_cons hA
  obtain ⟨rfl, rfl, rfl⟩ := trodAll_nil r0
  obtain rfl : args = #[v0] := by cases args; simp_all
  obtain ⟨rfl, rfl⟩ := trodVars_none hV
  obtain ⟨a0, len0, cap0, rfl⟩ := okWide_slice Try.underlying22 (hval 0 22 v0 rfl rfl)
  have k0 := h0
  have lt0 : ∀ x ∈ p0, x.block < W.heap.size := by obtain ⟨m, hm⟩ := k0; exact DataW.trod_lt m _ _ _ hm
  obtain ⟨z0, w0⟩ : ∃ zs, IsRow .u8 W a0 len0 cap0 zs := by
    obtain ⟨fuel, hf⟩ := h0
    rcases open_ints Try.underlying22 Try.underlying5 (by kernel_rfl) hf with ⟨hcs, _⟩ | ⟨x, l, c, zs, hcs, _, hl, hm, hz, _, hcell, hwz⟩
    · simp [Value.cells] at hcs
      obtain ⟨rfl, rfl, rfl⟩ := hcs
      exact ⟨[], .inl ⟨rfl, rfl, rfl, rfl⟩⟩
    · simp [Value.cells] at hcs
      obtain ⟨rfl, rfl, rfl⟩ := hcs
      exact ⟨zs, .inr ⟨_, rfl, hl, hm, by simpa using hz, hcell, hwz⟩⟩
  clear hA0 hval0
  refine (walk a0 len0 cap0 z0 W w0).mono fun e W' ⟨he, bel⟩ => ?_
  subst he
  exact ⟨_, rfl, _, _, _, [], _, [], hW', trodAll_mk1 (shut_bool Try.underlying4 _), (trodAll_cons_mk (Below.trod laidOut (by kernel_rfl) (of_decide_eq_true (by kernel_rfl)) k0 bel lt0) trodAll_mk0), rfl, bel.frame _, fun h => by cases h⟩
theorem over : Rows.fnPanesSortRow.holds Try.pinned (OpenSpec.ofChange Rows.fnPanesSortSpec) :=
  OpenClaim.holds_of_wide 9 Try.f9 rfl rfl rfl rfl rfl rfl rfl ⟨rfl, rfl, rfl, rfl, rfl⟩ rfl rfl rfl rfl rfl (by kernel_rfl) Try.func9 (by kernel_rfl)
    (of_decide_eq_true (by kernel_rfl)) (by unfold Func.isWrapper; first | (rw [if_pos (by decide +kernel)]; kernel_rfl) | (rw [if_neg (by decide +kernel)]; exact ⟨rfl, rfl⟩))
    (fun os started H enc _ => lifted os started H enc)
theorem proved : Rows.FnPanesSortSaid := over
end Go.Proofs.Ytpfmaiiolifblaa.fnPanesSort
namespace Go.Proofs.Ytpfmaiiolifblaa
-- The row, under a short name, for the claim.
theorem fnPanesSort_holds : Rows.FnPanesSortSaid := fnPanesSort.proved
end Go.Proofs.Ytpfmaiiolifblaa
