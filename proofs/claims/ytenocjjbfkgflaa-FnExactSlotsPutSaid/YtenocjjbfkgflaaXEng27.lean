/- A machine of values for the program's code, part 27: a law over a row of bytes. -/
import Derived.Test.YtenocjjbfkgflaaXEng26
namespace Go.Eng
open Go.RowKit

/-- A call that is handed no objects and returns a known value: what was there when it began is there as it was. -/
theorem AC.enter {P : Program} {f : FuncId} {fn : Func} (hf : P.funcs[f]? = some fn) (hb : fn.body.isSome = true) (hn : (fn.name == "runtime.NumGoroutine") = false) {args : List V} {v : Value}
    (h : AC P f args [] fun r _ _ => r = .lit v) {F : Cells} {w : World} {cargs : Array Value} (hF : ∀ b o, F b o → (memOf w b o).isSome) (hs : cargs.size = args.length)
    (hr : ∀ (i : Nat) x (hi : i < cargs.size), args[i]? = some x → RepV F (memOf w) noPl x cargs[i]) :
    Calls P f cargs w fun e w' => e = .returned v ∧ Below w.heap.size w w' := by
  have hw : WR F noPl (argOb []) w := by
    refine ⟨fun k x hx => ?_, fun _ _ => rfl, fun k l x y p q b o _ hx => ?_, hF⟩
    · simp [argOb] at hx
    · simp [argOb] at hx
  have h1 := h F noPl w cargs hw hs hr
  have hrun : (callFunc f cargs).run P w = .ok (.enter f cargs) w := by
    have hname' : ¬ fn.name = "runtime.NumGoroutine" := by simpa using hn
    have hb' : fn.body ≠ none := by intro e; rw [e] at hb; cases hb
    simp [callFunc, hf, hname', hb']
  rw [hrun] at h1
  refine Calls.mono (show Calls P f cargs w _ from h1) fun e w' ⟨cv, he, r, objs', news, F', pl', hK, hbk⟩ => ?_
  subst hK
  refine ⟨by rw [he, hbk.rep.lit_inv], hbk.same.os, hbk.same.tape, hbk.same.output, hbk.same.size, fun k hk => hbk.same.blk k hk fun o ho => ?_⟩
  obtain ⟨j, x, p, hx, _⟩ := ho
  simp at hx

/-- A row of small numbers in memory, as the machine takes it. -/
theorem rep_ints {w : World} {k : IntKind} {x : Addr} {len cap : Nat} (zs : List Int) (hx : x.spot = none) (hlen : len ≤ cap) (hl : len ≤ zs.length) (hc : ∀ i, i < len → w.cell? (x.add i) = some (.int k (zs.getD i 0))) :
    (∀ b o, (b = x.block ∧ x.off ≤ o ∧ o < x.off + len) → (memOf w b o).isSome) ∧
    RepV (fun b o => b = x.block ∧ x.off ≤ o ∧ o < x.off + len) (memOf w) noPl (.is 1 ((zs.take len).map fun n => .lit (.int k n))) (.slice (some x) len cap) := by
  obtain ⟨xb, xo, xs⟩ := x
  simp only at hx; subst hx
  have hc' : ∀ i, i < len → memOf w xb (xo + i) = some (.int k (zs.getD i 0)) := fun i hi => by
    have := hc i hi
    rwa [show (⟨xb, xo, none⟩ : Addr).add i = ⟨xb, xo + i, none⟩ from by unfold Addr.add; split <;> simp_all] at this
  refine ⟨fun b o ⟨hb, h1, h2⟩ => ?_, ?_⟩
  · simp only at hb h1 h2
    subst hb
    have := hc' (o - xo) (by omega)
    rw [show xo + (o - xo) = o by omega] at this
    rw [this]; rfl
  · have hlen2 : ((zs.take len).map fun n => V.lit (.int k n)).length = len := by simp; omega
    have el : ∀ (j : Nat) e (c : Nat) y, ((zs.take len).map fun n => V.lit (.int k n))[j]? = some e → e.cells[c]? = some y → j < len ∧ c = 0 ∧ y = .lit (.int k (zs.getD j 0)) := by
      intro j e c y he hy
      rw [List.getElem?_map, List.getElem?_take] at he
      split at he
      · rename_i hj
        obtain ⟨z, hz, rfl⟩ := Option.map_eq_some_iff.1 he
        simp only [V.cells, List.getElem?_singleton] at hy
        split at hy <;> cases hy
        rename_i hc0
        exact ⟨hj, hc0, by rw [List.getD_eq_getElem?_getD, hz]; rfl⟩
      · cases he
    have key := RepV.is (F := fun b o => b = xb ∧ xo ≤ o ∧ o < xo + len) (m := memOf w) (pl := noPl) (es := (zs.take len).map fun n => V.lit (.int k n)) (a := ⟨xb, xo, none⟩) (cap := cap) (n := 1) (fun j _ => .int k (zs.getD j 0)) (by rw [hlen2]; exact hlen) (fun _ => rfl)
      (fun j e he => by
        rw [List.getElem?_map] at he
        obtain ⟨z, hz, rfl⟩ := Option.map_eq_some_iff.1 he
        rfl)
      (fun j e c y he hy => by
        obtain ⟨h1, rfl, rfl⟩ := el j e c y he hy
        refine ⟨rfl, ⟨rfl, by simp, by simp only; omega⟩, ?_⟩
        simp only [Nat.mul_one, Nat.add_zero]
        exact hc' j h1)
      (fun j e c y he hy => by
        obtain ⟨h1, rfl, rfl⟩ := el j e c y he hy
        exact .lit)
    rw [hlen2] at key
    exact key
end Go.Eng
