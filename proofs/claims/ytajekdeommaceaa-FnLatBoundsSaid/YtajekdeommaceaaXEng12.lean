/- A machine of values for the program's code, part 12: any operation but a call. -/
import Derived.Test.YtajekdeommaceaaXEng11
namespace Go.Eng
open Go.RowKit

def srcKind (tt : TT) (t : TypeId) : Option Bool :=
  match tt t with
  | some ⟨.slice _, _, _, _⟩ => some false
  | some ⟨.str, _, _, _⟩ => some true
  | _ => none

def appendF (tt : TT) (nk : Key) (get : Store) (t tx : TypeId) (s x : V) : Option (V × List (Key × Obj)) :=
  match tt t with
  | some ⟨.slice e, _, _, _⟩ => match tt e, srcKind tt tx with
    | some ei, some stb => match srcV get ei.size stb x with
      | some xs => appendV ei nk get xs s x
      | none => none
    | _, _ => none
  | _ => none

def copyG (tt : TT) (get : Store) (t tx : TypeId) (s x : V) : Option (V × List (Key × Obj)) :=
  match tt t with
  | some ⟨.slice e, _, _, _⟩ => match tt e, srcKind tt tx with
    | some ei, some false => if ei.size = 0 then none else match srcV get ei.size false x with
      | some xs => copyF ei get xs s
      | none => none
    | _, _ => none
  | _ => none

def clearG (tt : TT) (get : Store) (t : TypeId) (s : V) : Option (V × List (Key × Obj)) :=
  match tt t with
  | some ⟨.slice e, _, _, _⟩ => match tt e with
    | some ei => (clearF ei get s).map fun u => (.tup [], u)
    | none => none
  | _ => none

def isLp : V → Bool
  | .lp .. => true
  | _ => false

/-- What an operation that is no call comes to: its value, and what becomes of the objects. -/
def opF (tt : TT) (nk : Key) (op : Op) (μ : Operand → V) (get : Store) : Option (V × List (Key × Obj)) :=
  match op with
  | .alloc elem => match tt elem with
    | some ti => makeV tt nk get elem ti.zeroV
    | none => none
  | .box elem x => makeV tt nk get elem (μ x)
  | .buildSlice t len parts => buildSliceF tt nk get t len (parts.toList.map fun p => (p.1, μ p.2))
  | .makeSlice t l c => makeSliceF tt nk get t (μ l) (μ c)
  | .load t a => if isLp (μ a) = true then (loadF tt get t (μ a)).map fun v => (v, []) else (pureF tt (.load t a) μ).map fun v => (v, [])
  | .store t a x => (storeF tt get t (μ a) (μ x)).map fun u => (.un, u)
  | .call { callee := .builtin .append, args, argTypes } => match argTypes.toList, args.toList with
    | [t, tx], [s, x] => appendF tt nk get t tx (μ s) (μ x)
    | _, _ => none
  | .call { callee := .builtin .copy, args, argTypes } => match argTypes.toList, args.toList with
    | [t, tx], [s, x] => copyG tt get t tx (μ s) (μ x)
    | _, _ => none
  | .call { callee := .builtin .clear, args, argTypes } => match argTypes.toList, args.toList with
    | [t], [s] => clearG tt get t (μ s)
    | _, _ => none
  | op => (pureF tt op μ).map fun v => (v, [])

def InvE (c : Ctx) (st : St) (a : Act) (w : World) : Prop := ∃ F pl, Inv c F pl st a w

section
variable {P : Program} {tt : TT} {c : Ctx} {F : Cells} {pl : Places} {st : St} {a : Act} {w : World}

theorem ments_ex {k : Key} : ∀ {vs : List V}, k ∈ mentsL vs → ∃ (i : Nat) (v : V), vs[i]? = some v ∧ k ∈ v.ments
  | [], h => by simp [mentsL] at h
  | v :: vs, h => by
    simp only [mentsL, List.mem_append] at h
    rcases h with h | h
    · exact ⟨0, v, rfl, h⟩
    · obtain ⟨i, x, h1, h2⟩ := ments_ex h
      exact ⟨i + 1, x, by simpa using h1, h2⟩

theorem RepV.ments_some {m : Mem} {v : V} {cv : Value} (h : RepV F m pl v cv) : ∀ k, k ∈ v.ments → pl k ≠ none := by
  have many : ∀ {pl : Places} {vs : List V} {cs : Array Value}, cs.size = vs.length → (∀ (i : Nat) x (h : i < cs.size), vs[i]? = some x → ∀ k, k ∈ x.ments → pl k ≠ none) → ∀ k, k ∈ mentsL vs → pl k ≠ none := by
    intro pl vs cs hs hi k hk
    obtain ⟨i, x, h1, h2⟩ := ments_ex hk
    exact hi i x (by rw [hs]; exact (List.getElem?_eq_some_iff.1 h1).1) h1 k h2
  induction h with
  | un => intro k hk; simp [V.ments] at hk
  | lit => intro k hk; simp [V.ments] at hk
  | e0 => intro k hk; simp [V.ments] at hk
  | e0n => intro k hk; simp [V.ments] at hk
  | isn => intro k hk; simp [V.ments] at hk
  | lp hp _ => intro k hk; simp [V.ments] at hk; subst hk; rw [hp]; simp
  | ls hp _ _ _ _ => intro k hk; simp [V.ments] at hk; subst hk; rw [hp]; simp
  | ip _ _ _ _ _ => intro k hk; simp [V.ments] at hk
  | is _ _ _ _ _ _ => intro k hk; simp [V.ments] at hk
  | fn cs h1 _ ih => exact many h1 ih
  | agg cs h1 _ ih => exact many h1 ih
  | tup cs h1 _ ih => exact many h1 ih

theorem kind_of (htt : TTok P tt) {tx : TypeId} {b : Bool} (h : srcKind tt tx = some b) : (b = false ∧ ∃ e', P.underlying tx = some (.slice e')) ∨ (b = true ∧ P.underlying tx = some .string) := by
  unfold srcKind at h
  split at h
  · rename_i ht; cases h
    obtain ⟨i, d, hk⟩ := htt.get ht
    exact .inl ⟨rfl, _, hk.slice⟩
  · rename_i ht; cases h
    obtain ⟨i, d, hk⟩ := htt.get ht
    exact .inr ⟨rfl, hk.str⟩
  · cases h

theorem arr_one {α : Type} {xs : Array α} {x : α} (h : xs.toList = [x]) : xs = #[x] := by rw [← Array.toArray_toList (xs := xs), h]
theorem arr_two {α : Type} {xs : Array α} {x y : α} (h : xs.toList = [x, y]) : xs = #[x, y] := by rw [← Array.toArray_toList (xs := xs), h]

theorem op_run (htt : TTok P tt) (h : Inv c F pl st a w) {nk : Key} (hk0 : nk.1 ≠ 0) (o : Oper) {v : V} {ups : List (Key × Obj)} (hf : opF tt nk o.op (ev st.tm) st.ob = some (v, ups)) :
    ∃ F' pl' w' r cv, (execOp a.eval o).run P w = .ok r w' ∧ (r = .value cv ∨ (r = .skip ∧ cv = undef)) ∧ Inv c F' pl' { st with ob := st.ob.sets ups } a w' ∧ RepV F' (memOf w') pl' v cv := by
  have hρ := ev_rep h
  have pure_case : ∀ {v}, pureF tt o.op (ev st.tm) = some v → ∃ F' pl' w' r cv, (execOp a.eval o).run P w = .ok r w' ∧ (r = .value cv ∨ (r = .skip ∧ cv = undef)) ∧ Inv c F' pl' { st with ob := st.ob.sets [] } a w' ∧ RepV F' (memOf w') pl' v cv := by
    intro v hv
    obtain ⟨cv, h1, h2⟩ := pureF_sound htt hρ o hv
    exact ⟨F, pl, w, _, cv, h1, .inl rfl, h, h2⟩
  have other : ∀ {x}, (pureF tt o.op (ev st.tm)).map (fun v => (v, ([] : List (Key × Obj)))) = some x → x = (v, ups) → ∃ F' pl' w' r cv, (execOp a.eval o).run P w = .ok r w' ∧ (r = .value cv ∨ (r = .skip ∧ cv = undef)) ∧ Inv c F' pl' { st with ob := st.ob.sets ups } a w' ∧ RepV F' (memOf w') pl' v cv := by
    intro x hx e
    subst e
    obtain ⟨v', hv, e⟩ := Option.map_eq_some_iff.1 hx
    simp only [Prod.mk.injEq] at e
    obtain ⟨rfl, rfl⟩ := e
    exact pure_case hv
  obtain ⟨dst, op, ty, pos, after, guard⟩ := o
  simp only at hf other pure_case
  cases op
  case alloc elem =>
    simp only [opF] at hf
    split at hf <;> try contradiction
    rename_i ti hti
    obtain ⟨i, d, hk⟩ := htt.get hti
    obtain ⟨pl', w', cv, h1, h2, h3⟩ := make_sound (P := P) h hk0 (elem := elem) (cx := ti.zeroVal) ti.zero_rep hf
    refine ⟨F, pl', w', _, cv, ?_, .inl rfl, h2, h3⟩
    simp only [Instr.box, Sem.run_bind] at h1
    simp only [execOp, Instr.alloc, Sem.run_bind, hk.zeroValue, Result.andThen]
    generalize hr : (newVar elem ti.zeroVal).run P w = r at h1
    cases r with
    | halt x w1 => simp [Result.andThen] at h1
    | ok x w1 => simp [Result.andThen] at h1 ⊢; exact ⟨h1.1, h1.2⟩
  case box elem x =>
    simp only [opF] at hf
    obtain ⟨pl', w', cv, h1, h2, h3⟩ := make_sound (P := P) h hk0 (hρ x) hf
    exact ⟨F, pl', w', _, cv, by simp [execOp, h1], .inl rfl, h2, h3⟩
  case buildSlice t len parts =>
    simp only [opF] at hf
    have hnk : st.ob nk = none := by
      unfold buildSliceF at hf
      split at hf <;> try contradiction
      split at hf <;> try contradiction
      split at hf <;> try contradiction
      rename_i hc; exact hc.2.2
    obtain ⟨F', pl', w', cv, h1, h2, h3⟩ := buildSlice_sound (P := P) htt h hk0 hρ (fun p _ hm => (hρ p.2).ments_some nk hm (h.wr.non nk hnk)) hf
    exact ⟨F', pl', w', _, cv, by simp [execOp, h1], .inl rfl, h2, h3⟩
  case makeSlice t l r =>
    simp only [opF] at hf
    obtain ⟨pl', w', cv, h1, h2, h3⟩ := makeSlice_sound (P := P) htt h hk0 (hρ l) (hρ r) hf
    exact ⟨F, pl', w', _, cv, by simp [execOp, h1], .inl rfl, h2, h3⟩
  case load t x =>
    simp only [opF] at hf
    split at hf
    · obtain ⟨v', hv, e⟩ := Option.map_eq_some_iff.1 hf
      simp only [Prod.mk.injEq] at e
      obtain ⟨rfl, rfl⟩ := e
      obtain ⟨cv, h1, h2⟩ := load_sound (P := P) htt h (hρ x) hv
      exact ⟨F, pl, w, _, cv, by simp [execOp, h1], .inl rfl, h, h2⟩
    · exact other hf rfl
  case store t x y =>
    simp only [opF] at hf
    obtain ⟨u, hu, e⟩ := Option.map_eq_some_iff.1 hf
    simp only [Prod.mk.injEq] at e
    obtain ⟨rfl, rfl⟩ := e
    obtain ⟨F', w', h1, h2⟩ := store_sound (P := P) htt h (hρ x) (hρ y) hu
    exact ⟨F', pl, w', _, undef, by simp [execOp, h1], .inr ⟨rfl, rfl⟩, h2, .un⟩
  case call cl =>
    obtain ⟨callee, args, argTypes⟩ := cl
    cases callee
    case builtin b =>
      cases b
      case append =>
        simp only [opF] at hf
        split at hf <;> try contradiction
        rename_i t tx s x hts has
        unfold appendF at hf
        split at hf <;> try contradiction
        rename_i e _ _ _ ht
        obtain ⟨i, d, hk⟩ := htt.get ht
        split at hf <;> try contradiction
        rename_i ei stb hei hsk
        obtain ⟨i2, d2, hk2⟩ := htt.get hei
        split at hf <;> try contradiction
        rename_i xs hxs
        obtain ⟨F', pl', w', cv, h1, h2, h3⟩ := append_sound (P := P) h hk0 (ty := ty) hk.slice hk2 (kind_of htt hsk) (hρ s) (hρ x) hxs hf
        refine ⟨F', pl', w', _, cv, ?_, .inl rfl, h2, h3⟩
        rw [arr_two hts, arr_two has]
        simp [execOp, resolve, invoke, builtin, h1]
      case copy =>
        simp only [opF] at hf
        split at hf <;> try contradiction
        rename_i t tx s x hts has
        unfold copyG at hf
        split at hf <;> try contradiction
        rename_i e _ _ _ ht
        obtain ⟨i, d, hk⟩ := htt.get ht
        split at hf <;> try contradiction
        rename_i ei hei hsk
        obtain ⟨i2, d2, hk2⟩ := htt.get hei
        split at hf <;> try contradiction
        rename_i hn
        split at hf <;> try contradiction
        rename_i xs hxs
        have hkk : ∃ e', P.underlying tx = some (.slice e') := by
          rcases kind_of htt hsk with ⟨_, g⟩ | ⟨g, _⟩
          · exact g
          · cases g
        obtain ⟨w', cv, h1, h2, h3⟩ := copy_sound (P := P) h (ty := ty) hk.slice hk2 (by omega) hkk (hρ s) (hρ x) hxs hf
        refine ⟨F, pl, w', _, cv, ?_, .inl rfl, h2, h3⟩
        rw [arr_two hts, arr_two has]
        simp [execOp, resolve, invoke, builtin, h1]
      case clear =>
        simp only [opF] at hf
        split at hf <;> try contradiction
        rename_i t s hts has
        unfold clearG at hf
        split at hf <;> try contradiction
        rename_i e _ _ _ ht
        obtain ⟨i, d, hk⟩ := htt.get ht
        split at hf <;> try contradiction
        rename_i ei hei
        obtain ⟨i2, d2, hk2⟩ := htt.get hei
        obtain ⟨u, hu, e'⟩ := Option.map_eq_some_iff.1 hf
        simp only [Prod.mk.injEq] at e'
        obtain ⟨rfl, rfl⟩ := e'
        obtain ⟨w', h1, h2⟩ := clear_sound (P := P) h (ty := ty) hk.slice hk2 (hρ s) hu
        refine ⟨F, pl, w', _, .tuple #[], ?_, .inl rfl, h2, .tup _ rfl (fun i x hi => by simp at hi)⟩
        rw [arr_one hts, arr_one has]
        simp [execOp, resolve, invoke, builtin, h1]
      all_goals exact other (x := (v, ups)) (by simpa only [opF] using hf) rfl
    all_goals exact other (x := (v, ups)) (by simpa only [opF] using hf) rfl
  all_goals exact other (x := (v, ups)) (by simpa only [opF] using hf) rfl

theorem op_sound (htt : TTok P tt) (h : InvE c st a w) {nk : Key} (hk0 : nk.1 ≠ 0) (o : Oper) {v : V} {ups : List (Key × Obj)} (hf : opF tt nk o.op (ev st.tm) st.ob = some (v, ups)) {next : Act → World → Prop} {Q : Exit → Act → World → Prop}
    (hn : ∀ a' w', InvE c (({ st with ob := st.ob.sets ups } : St).put o.dst v) a' w' → next a' w') : o.wp P a w next Q := by
  obtain ⟨F, pl, hI⟩ := h
  obtain ⟨F', pl', w', r, cv, h1, h2, h3, h4⟩ := op_run (P := P) htt hI hk0 o hf
  unfold Oper.wp
  rw [h1]
  rcases h2 with rfl | ⟨rfl, rfl⟩
  · exact hn _ _ ⟨F', pl', h3.put o.dst h4⟩
  · exact hn _ _ ⟨F', pl', h3.put o.dst h4⟩
end
end Go.Eng
