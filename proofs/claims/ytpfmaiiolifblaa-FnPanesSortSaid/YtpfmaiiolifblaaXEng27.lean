import Derived.Test.YtpfmaiiolifblaaXEng26
/- A machine of values for the program's code, part 27: a law over a row of bytes. -/
namespace Go.Eng
open Go.RowKit

/-- A call that is handed no objects and returns a known value: what was there when it began is there as it was. -/
theorem AC.enter {P : Program} {f : FuncId} {fn : Func} (hf : P.funcs[f]? = some fn) (hb : fn.body.isSome = true) (hn : (fn.name == "runtime.NumGoroutine") = false) {args : List V} {v : Value}
    (h : AC P f args [] fun r _ _ => r = .lit v) {F : Cells} {w : World} {cargs : Array Value} (hF : ∀ b o, F b o → (memOf w b o).isSome) (hs : cargs.size = args.length)
    (hr : ∀ (i : Nat) x (hi : i < cargs.size), args[i]? = some x → RepV F (memOf w) noPl x cargs[i]) :
    Calls P f cargs w fun e w' => e = .returned v ∧ Below w.heap.size w w' := by
  have hw : WR F noPl (argOb []) w := by
    refine ⟨fun k x hx => ?_, fun _ _ => rfl, fun k l x y p q b o _ hx => ?_, hF⟩
    · simp [argOb] at hx
    · simp [argOb] at hx
  have h1 := h F noPl w cargs hw hs hr
  have hrun : (callFunc f cargs).run P w = .ok (.enter f cargs) w := by
    have hname' : ¬ fn.name = "runtime.NumGoroutine" := by simpa using hn
    have hb' : fn.body ≠ none := by intro e; rw [e] at hb; cases hb
    simp [callFunc, hf, hname', hb']
  rw [hrun] at h1
  refine Calls.mono (show Calls P f cargs w _ from h1) fun e w' ⟨cv, he, r, objs', news, F', pl', hK, hbk⟩ => ?_
  subst hK
  refine ⟨by rw [he, hbk.rep.lit_inv], hbk.same.os, hbk.same.tape, hbk.same.output, hbk.same.size, fun k hk => hbk.same.blk k hk fun o ho => ?_⟩
  obtain ⟨j, x, p, hx, _⟩ := ho
  simp at hx

/-- A row of small numbers in memory, as the machine takes it. -/
theorem rep_ints {w : World} {k : IntKind} {x : Addr} {len cap : Nat} (zs : List Int) (hx : x.spot = none) (hlen : len ≤ cap) (hl : len ≤ zs.length) (hc : ∀ i, i < len → w.cell? (x.add i) = some (.int k (zs.getD i 0))) :
    (∀ b o, (b = x.block ∧ x.off ≤ o ∧ o < x.off + len) → (memOf w b o).isSome) ∧
    RepV (fun b o => b = x.block ∧ x.off ≤ o ∧ o < x.off + len) (memOf w) noPl (.is 1 ((zs.take len).map fun n => .lit (.int k n))) (.slice (some x) len cap) := by
  obtain ⟨xb, xo, xs⟩ := x
  simp only at hx; subst hx
  have hc' : ∀ i, i < len → memOf w xb (xo + i) = some (.int k (zs.getD i 0)) := fun i hi => by
    have := hc i hi
    rwa [show (⟨xb, xo, none⟩ : Addr).add i = ⟨xb, xo + i, none⟩ from by unfold Addr.add; split <;> simp_all] at this
  refine ⟨fun b o ⟨hb, h1, h2⟩ => ?_, ?_⟩
  · simp only at hb h1 h2
    subst hb
    have := hc' (o - xo) (by omega)
    rw [show xo + (o - xo) = o by omega] at this
    rw [this]; rfl
  · have hlen2 : ((zs.take len).map fun n => V.lit (.int k n)).length = len := by simp; omega
    have el : ∀ (j : Nat) e (c : Nat) y, ((zs.take len).map fun n => V.lit (.int k n))[j]? = some e → e.cells[c]? = some y → j < len ∧ c = 0 ∧ y = .lit (.int k (zs.getD j 0)) := by
      intro j e c y he hy
      rw [List.getElem?_map, List.getElem?_take] at he
      split at he
      · rename_i hj
        obtain ⟨z, hz, rfl⟩ := Option.map_eq_some_iff.1 he
        simp only [V.cells, List.getElem?_singleton] at hy
        split at hy <;> cases hy
        rename_i hc0
        exact ⟨hj, hc0, by rw [List.getD_eq_getElem?_getD, hz]; rfl⟩
      · cases he
    have key := RepV.is (F := fun b o => b = xb ∧ xo ≤ o ∧ o < xo + len) (m := memOf w) (pl := noPl) (es := (zs.take len).map fun n => V.lit (.int k n)) (a := ⟨xb, xo, none⟩) (cap := cap) (n := 1) (fun j _ => .int k (zs.getD j 0)) (by rw [hlen2]; exact hlen) (fun _ => rfl)
      (fun j e he => by
        rw [List.getElem?_map] at he
        obtain ⟨z, hz, rfl⟩ := Option.map_eq_some_iff.1 he
        rfl)
      (fun j e c y he hy => by
        obtain ⟨h1, rfl, rfl⟩ := el j e c y he hy
        refine ⟨rfl, ⟨rfl, by simp, by simp only; omega⟩, ?_⟩
        simp only [Nat.mul_one, Nat.add_zero]
        exact hc' j h1)
      (fun j e c y he hy => by
        obtain ⟨h1, rfl, rfl⟩ := el j e c y he hy
        exact .lit)
    rw [hlen2] at key
    exact key
end Go.Eng

/- A machine of values for the program's code, part 28: what a walk is asked for, in one step each. -/
namespace Go.Eng
open Go.RowKit

/-- A place in a row, by its number. -/
theorem map_at {α : Type} [Inhabited α] {f : α → V} {l : List α} {i : Nat} {K : V → Prop} (h : i < l.length) (k : K (f (l.getD i default))) : ∃ e, (l.map f)[((i : Nat) : Int).toNat]? = some e ∧ K e :=
  ⟨_, by rw [Int.toNat_natCast, List.getElem?_map, List.getD_eq_getElem?_getD, List.getElem?_eq_getElem h]; rfl, k⟩
theorem map_at0 {α : Type} [Inhabited α] {f : α → V} {l : List α} {i : Nat} {K : V → Prop} (h : i < l.length) (k : K (f (l.getD i default))) : ∃ e, (l.map f)[0 + ((i : Nat) : Int).toNat]? = some e ∧ K e := by
  rw [Nat.zero_add]; exact map_at h k
/-- The same, the place being a number with a name. -/
theorem map_atI {α : Type} [Inhabited α] {f : α → V} {l : List α} {z : Int} {K : V → Prop} (h : 0 ≤ z ∧ z < l.length) (k : K (f (l.getD z.toNat default))) : ∃ e, (l.map f)[z.toNat]? = some e ∧ K e :=
  ⟨_, map_get (by rw [List.length_map]; exact h), k⟩
theorem map_atI0 {α : Type} [Inhabited α] {f : α → V} {l : List α} {z : Int} {K : V → Prop} (h : 0 ≤ z ∧ z < l.length) (k : K (f (l.getD z.toNat default))) : ∃ e, (l.map f)[0 + z.toNat]? = some e ∧ K e := by
  rw [Nat.zero_add]; exact map_atI h k
/-- A row of one more. -/
theorem set_at {α : Type} {f : α → V} {L : List α} {i : Nat} {x : α} {v : V} {K : List V → Prop} (hv : v = f x) (k : K ((L.set i x).map f)) : ∀ es', es' = (L.map f).set (0 + ((i : Nat) : Int).toNat) v → K es' := by
  subst hv
  intro es' h
  rw [h, Nat.zero_add, Int.toNat_natCast, ← List.map_set]; exact k
theorem set_atI {α : Type} {f : α → V} {L : List α} {z : Int} {x : α} {v : V} {K : List V → Prop} (hv : v = f x) (k : K ((L.set z.toNat x).map f)) : ∀ es', es' = (L.map f).set (0 + z.toNat) v → K es' := by
  subst hv
  intro es' h
  rw [h, Nat.zero_add, ← List.map_set]; exact k
theorem app1 {α : Type} {f : α → V} {l : List α} {x : α} {v : V} {A : Prop} {K : Nat → List V → Prop} (h : A) (hv : v = f x) (k : K (l ++ [x]).length ((l ++ [x]).map f)) : A ∧ ∀ l' es', l' = l.length + [v].length → es' = ((l.map f).drop 0).take l.length ++ [v] → K l' es' := by
  subst hv
  refine ⟨h, fun l' es' h1 h2 => ?_⟩
  have e1 : l' = (l ++ [x]).length := by rw [h1]; simp
  have e2 : es' = (l ++ [x]).map f := by rw [h2, List.drop_zero, List.take_of_length_le (by simp), List.map_append]; rfl
  rw [e1, e2]; exact k
theorem appN {α : Type} {f : α → V} {m : List α} {A : Prop} {K : Nat → List V → Prop} (h : A) (k : K m.length (m.map f)) : A ∧ ∀ l' es', l' = 0 + (m.map f).length → es' = (([] : List V).drop 0).take 0 ++ m.map f → K l' es' := by
  refine ⟨h, fun l' es' h1 h2 => ?_⟩
  have e1 : l' = m.length := by rw [h1]; simp
  have e2 : es' = m.map f := by rw [h2]; simp
  rw [e1, e2]; exact k
theorem app0 {α : Type} {f : α → V} {x : α} {l : List α} {A : Prop} {K : Nat → List V → Prop} (h : A) (k : K (x :: l).length ((x :: l).map f)) : A ∧ ∀ l' es', l' = (f x :: l.map f).length → es' = f x :: l.map f → K l' es' := by
  refine ⟨h, fun l' es' h1 h2 => ?_⟩
  have e1 : l' = (x :: l).length := by rw [h1]; simp
  rw [e1, h2]; exact k
theorem appR {α : Type} {f : α → V} {l m : List α} {A : Prop} {K : Nat → List V → Prop} (h : A) (k : K (l ++ m).length ((l ++ m).map f)) : A ∧ ∀ l' es', l' = l.length + (m.map f).length → es' = ((l.map f).drop 0).take l.length ++ m.map f → K l' es' := by
  refine ⟨h, fun l' es' h1 h2 => ?_⟩
  have e1 : l' = (l ++ m).length := by rw [h1]; simp
  have e2 : es' = (l ++ m).map f := by rw [h2, List.drop_zero, List.take_of_length_le (by simp), List.map_append]
  rw [e1, e2]; exact k
/-- A cut of a row. -/
theorem cutN {α : Type} {f : α → V} {l : List α} {A : Prop} {x y : Nat} {K : List V → Prop} (a z : Nat) (h : A) (hx : x = a) (hy : y = z) (k : K (((l.drop a).take z).map f)) : A ∧ ∀ es', es' = ((l.map f).drop x).take y → K es' := by
  subst hx; subst hy
  exact ⟨h, fun es' e => by rw [e, ← List.map_drop, ← List.map_take]; exact k⟩
/-- A copy onto a row. -/
theorem copyR {α : Type} {f : α → V} {l m : List α} {A : Prop} {i len : Nat} {K : Nat → List V → Prop} (h : A) (k : K (Nat.min m.length len) ((l.take i ++ m.take (Nat.min m.length len) ++ l.drop (i + Nat.min m.length len)).map f)) : A ∧ ∀ n es', n = Nat.min (m.map f).length len → es' = (l.map f).take i ++ (m.map f).take n ++ (l.map f).drop (i + n) → K n es' := by
  refine ⟨h, fun n es' h1 h2 => ?_⟩
  rw [List.length_map] at h1
  subst h1
  rw [h2, ← List.map_take, ← List.map_take, ← List.map_drop, ← List.map_append, ← List.map_append]; exact k
/-- A part of a row that is looked at. -/
theorem part_at {α : Type} {f : α → V} {l : List α} {A : Prop} {x y : Nat} {K : List V → Prop} (h : A) (k : K (((l.drop x).take y).map f)) : A ∧ ∀ xs, xs = ((l.map f).drop x).take y → K xs :=
  ⟨h, fun xs e => by rw [e, ← List.map_drop, ← List.map_take]; exact k⟩
/-- A row that is looked at as a whole. -/
theorem all_at {α : Type} {f : α → V} {l : List α} {A : Prop} {K : List V → Prop} (h : A) (k : K (l.map f)) : A ∧ ∀ xs, xs = ((l.map f).drop 0).take l.length → K xs :=
  ⟨h, fun xs e => by rw [e, List.drop_zero, List.take_of_length_le (by simp)]; exact k⟩
/-- Rows that may change, lent one behind the other (the last one first). -/
def LendTo : List (Nat × List V) → List V → List V → Prop
  | [], a, b => a = b
  | (n, es) :: r, a, b => ∃ c, LendA (0, r.length) n es a c ∧ LendTo r c b
def objsOf : List (Nat × List V) → List Obj
  | [] => []
  | (n, es) :: r => objsOf r ++ [.arr true n es]
theorem objsOf_len : ∀ {r : List (Nat × List V)}, (objsOf r).length = r.length
  | [] => rfl
  | (n, es) :: r => by simp [objsOf, objsOf_len (r := r)]
theorem objsOf_ments : ∀ {r : List (Nat × List V)}, ∀ x ∈ objsOf r, x.ments = []
  | [], _, h => nomatch h
  | (n, es) :: r, x, h => by
    simp only [objsOf, List.mem_append, List.mem_singleton] at h
    rcases h with h | rfl
    · exact objsOf_ments x h
    · rfl
theorem noIsO_app : ∀ {a b : List Obj}, noIsO a = true → noIsO b = true → noIsO (a ++ b) = true
  | [], _, _, h => h
  | x :: a, b, h1, h2 => by
    simp only [noIsO, List.cons_append, Bool.and_eq_true] at h1 ⊢
    exact ⟨h1.1, noIsO_app h1.2 h2⟩
theorem AC.borrowS {P : Program} {f : FuncId} : ∀ {r : List (Nat × List V)} {args args' : List V} {K : V → List Obj → List Obj → Prop}, LendTo r args args' → noIsO (objsOf r) = true →
    AC P f args' [] (fun v o n => (v.noIs = true ∧ noIsO o = true ∧ noIsO n = true) ∧ K v (o ++ objsOf r) n) → AC P f args (objsOf r) K
  | [], args, args', K, hl, _, h => by
    obtain rfl : args = args' := hl
    exact AC.mono h fun v o n hv => by simpa [objsOf] using hv.2
  | (n, es) :: r, args, args', K, ⟨c, h1, h2⟩, hn, h => by
    have hn' : noIsO (objsOf r) = true := by
      have : ∀ {a b : List Obj}, noIsO (a ++ b) = true → noIsO a = true := by
        intro a b h
        induction a with
        | nil => rfl
        | cons x a ih => simp only [noIsO, List.cons_append, Bool.and_eq_true] at h ⊢; exact ⟨h.1, ih h.2⟩
      exact this hn
    refine AC.borrow (objs := objsOf r) (by rw [objsOf_len]; exact h1) (fun x hx => by rw [objsOf_ments x hx]; exact List.not_mem_nil) ?_
    refine AC.borrowS h2 hn' (AC.mono h fun v o m hv => ⟨hv.1, ⟨hv.1.1, noIsO_app hv.1.2.1 hn', hv.1.2.2⟩, ?_⟩)
    have := hv.2
    rwa [objsOf, ← List.append_assoc] at this
theorem anat {n : Nat} {K : Int → Prop} (k : K n) : ∀ r, r = ((n : Nat) : Int) → K r := fun _ hr => hr ▸ k
theorem lgOk {ops : Array Oper} {anc : List Nat} {a b : List Ent} {K : Prop} (h : logOk ops anc a b = true) (k : K) : logOk ops anc a b = true ∧ K := ⟨h, k⟩
theorem kpOk {KL : List Key} {s : St} {n : Nat} {P : Nat → Prop} (h : keepOk KL s = true) (k : ∃ m, m < n ∧ P m) : keepOk KL s = true ∧ ∃ m, m < n ∧ P m := ⟨h, k⟩
/-- A place of a row that nobody changes. -/
theorem ix_at {α : Type} {f : α → V} {l : List α} {i : Int} {a n : Nat} {K : Prop} (h0 : a = n) (h : 0 ≤ i ∧ i < l.length) (k : K) : (a = n ∧ 0 ≤ i ∧ i < (((l.map f).length : Nat) : Int)) ∧ K := ⟨⟨h0, h.1, by rw [List.length_map]; exact h.2⟩, k⟩
theorem andOk {A K : Prop} (h : A) (k : K) : A ∧ K := ⟨h, k⟩
theorem nzOk {a b : Nat} {K : Prop} (h : a ≠ b) (k : K) : a ≠ b ∧ K := ⟨h, k⟩
theorem dvOk {a b : IntKind} {x : Int} {K : Prop} (h : a = b) (h2 : x ≠ 0) (k : K) : (a = b ∧ x ≠ 0) ∧ K := ⟨⟨h, h2⟩, k⟩
/-- A rest, of which only the range is kept. -/
theorem aremB {x y : Int} {K : Int → Prop} (h : 0 ≤ x) (hy : 0 < y) (k : ∀ r, 0 ≤ r → r < y → K r) : ∀ r, r = x.tmod y → K r := by
  intro r hr
  rw [hr, Int.tmod_eq_emod_of_nonneg h]
  exact k _ (Int.emod_nonneg _ (by omega)) (Int.emod_lt_of_pos _ hy)
theorem szOk {a b : Nat} {K : Prop} (h : a = b) (k : K) : a = b ∧ K := ⟨h, k⟩
end Go.Eng
