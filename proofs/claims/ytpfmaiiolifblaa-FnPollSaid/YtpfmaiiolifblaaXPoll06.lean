/- A machine of values for the program's code, part 7: operations that make, read and change objects. -/
import Derived.Deep.AppendSrc
import Derived.Deep.Upon
import Derived.Test.YtpfmaiiolifblaaXPoll05
namespace Go.Eng
open Go.RowKit

def Store.sets (ob : Store) : List (Key × Obj) → Store
  | [] => ob
  | u :: r => Store.sets (ob.set u.1 u.2) r

theorem Store.sets_append (ob : Store) (l r : List (Key × Obj)) : ob.sets (l ++ r) = (ob.sets l).sets r := by
  induction l generalizing ob with
  | nil => rfl
  | cons u t ih => exact ih _

def okE (n : Nat) (x : V) : Bool := x.cells.length == n && x.cells.all scal

/-- A cell that may stand in a row: what it names is never written again. -/
def frzC (get : Store) : V → Option (V × List (Key × Obj))
  | .lp .. => none
  | .fn f cs => if (mentsL cs).isEmpty then some (.fn f cs, []) else none
  | .ls k n i len => match get k with
    | some (.arr true n' es) => if n' = n ∧ i + len ≤ es.length then some (.is n ((es.drop i).take len), [(k, .froz n es)]) else none
    | some (.froz n' es) => if n' = n ∧ i + len ≤ es.length then some (.is n ((es.drop i).take len), []) else none
    | _ => none
  | v => some (v, [])

def frzL (get : Store) : List V → Option (List V × List (Key × Obj))
  | [] => some ([], [])
  | x :: xs => match frzC get x with
    | some (y, u) => match frzL get xs with
      | some (ys, us) => some (y :: ys, u ++ us)
      | none => none
    | none => none

def frz (get : Store) (x : V) : Option (V × List (Key × Obj)) :=
  match x with
  | .agg cs => (frzL get cs).map fun r => (.agg r.1, r.2)
  | v => frzC get v

/-- `cur` is `old` but that some rows are no longer written. -/
def Frozen (old cur : Store) : Prop := ∀ k, cur k = old k ∨ ∃ n es, old k = some (.arr true n es) ∧ cur k = some (.froz n es)

theorem mentsL_nil {vs : List V} (h : mentsL vs = []) : ∀ v ∈ vs, v.ments = [] := by
  intro v hv
  cases hm : v.ments with
  | nil => rfl
  | cons k r => have := ments_mem hv k (by rw [hm]; simp); rw [h] at this; cases this

theorem isRow {F : Cells} {m : Mem} {pl : Places} {b o n i len cap : Nat} {a : Addr} {es : List V} (hle : i + len ≤ es.length) (hcap : len ≤ cap) (ha : cap ≠ 0 → a = ⟨b, o + i * n, none⟩)
    (hr : ∀ (j : Nat) e, es[j]? = some e → RepE F m noPl b (o + j * n) n e ∧ ∀ c, c < n → F b (o + j * n + c)) :
    RepV F m pl (.is n ((es.drop i).take len)) (.slice (some a) len cap) := by
  have hlen : ((es.drop i).take len).length = len := by simp; omega
  have hget : ∀ (j : Nat) e, ((es.drop i).take len)[j]? = some e → es[i + j]? = some e ∧ cap ≠ 0 := by
    intro j e he
    simp only [List.getElem?_take, List.getElem?_drop] at he
    split at he
    · exact ⟨he, by omega⟩
    · cases he
  let cf : Nat → Nat → Value := fun j c => (m b (o + (i + j) * n + c)).getD undef
  have hcf : ∀ (j : Nat) e (c : Nat) x, es[i + j]? = some e → e.cells[c]? = some x → scal x = true ∧ F b (o + (i + j) * n + c) ∧ m b (o + (i + j) * n + c) = some (cf j c) ∧ RepV F m noPl x (cf j c) := by
    intro j e c x he hx
    obtain ⟨⟨h1, h2⟩, h3⟩ := hr _ e he
    obtain ⟨g1, cv, g2, g3⟩ := h2 c x hx
    have e1 : cf j c = cv := by simp only [cf, g2, Option.getD_some]
    exact ⟨g1, h3 c (by rw [← h1]; exact (List.getElem?_eq_some_iff.1 hx).1), by rw [e1]; exact g2, by rw [e1]; exact g3⟩
  have ha' : ∀ (j : Nat) e, ((es.drop i).take len)[j]? = some e → a.block = b ∧ a.off = o + i * n := by
    intro j e he
    rw [ha (hget j e he).2]; exact ⟨rfl, rfl⟩
  have := RepV.is (F := F) (m := m) (pl := pl) (es := (es.drop i).take len) (a := a) (cap := cap) (n := n) cf (by omega) (fun hne => by
      have : cap ≠ 0 := by
        intro h0
        apply hne
        apply List.eq_nil_of_length_eq_zero
        omega
      rw [ha this])
    (fun j e he => (hr _ e (hget j e he).1).1.1) (fun j e c x he hx => by
      obtain ⟨k1, k2⟩ := ha' j e he
      obtain ⟨g1, g2, g3, _⟩ := hcf j e c x (hget j e he).1 hx
      rw [k1, k2, show o + i * n + j * n + c = o + (i + j) * n + c by rw [Nat.add_mul]; omega]
      exact ⟨g1, g2, g3⟩) (fun j e c x he hx => (hcf j e c x (hget j e he).1 hx).2.2.2)
  rw [hlen] at this
  exact this

theorem frzC_sound {c : Ctx} {F : Cells} {pl : Places} {st : St} {cur : Store} {a : Act} {w : World} (h : Inv c F pl { st with ob := cur } a w) (hcur : Frozen st.ob cur) {x x' : V} {ups : List (Key × Obj)} {cv : Value}
    (hx : RepV F (memOf w) pl x cv) (hs : scal x = true) (hf : frzC st.ob x = some (x', ups)) :
    ∃ F', Inv c F' pl { st with ob := cur.sets ups } a w ∧ Frozen st.ob (cur.sets ups) ∧ (∀ b o, F b o → F' b o) ∧ RepV F' (memOf w) noPl x' cv ∧ scal x' = true := by
  have plain : x.ments = [] → x' = x → ups = [] → ∃ F', Inv c F' pl { st with ob := cur.sets ups } a w ∧ Frozen st.ob (cur.sets ups) ∧ (∀ b o, F b o → F' b o) ∧ RepV F' (memOf w) noPl x' cv ∧ scal x' = true := by
    rintro hm rfl rfl
    exact ⟨F, h, hcur, fun _ _ h => h, hx.places (fun k p hk => by rw [hm] at hk; cases hk), hs⟩
  cases x with
  | un => simp [scal] at hs
  | agg cs => simp [scal] at hs
  | tup cs => simp [scal] at hs
  | lp k n i o => simp [frzC] at hf
  | lit v => simp only [frzC, Option.some.injEq, Prod.mk.injEq] at hf; exact plain rfl hf.1.symm hf.2.symm
  | e0 => simp only [frzC, Option.some.injEq, Prod.mk.injEq] at hf; exact plain rfl hf.1.symm hf.2.symm
  | ip n es i o => simp only [frzC, Option.some.injEq, Prod.mk.injEq] at hf; exact plain rfl hf.1.symm hf.2.symm
  | is n es => simp only [frzC, Option.some.injEq, Prod.mk.injEq] at hf; exact plain rfl hf.1.symm hf.2.symm
  | fn f cs =>
    simp only [frzC] at hf
    split at hf
    · rename_i hm
      simp only [Option.some.injEq, Prod.mk.injEq] at hf
      exact plain (by simpa [V.ments, List.isEmpty_iff] using hm) hf.1.symm hf.2.symm
    · cases hf
  | ls k n i len =>
    obtain ⟨p, ad, cap, hp, hpn, hlc, hic, had, rfl⟩ := hx.ls_inv
    simp only [frzC] at hf
    split at hf
    · rename_i n' es hk
      split at hf <;> try contradiction
      rename_i hb
      obtain ⟨rfl, hb⟩ := hb
      simp only [Option.some.injEq, Prod.mk.injEq] at hf
      obtain ⟨rfl, rfl⟩ := hf
      rcases hcur k with hc | ⟨n'', es'', hc1, hc2⟩
      · rw [hk] at hc
        have hfz := h.freeze hc hp
        obtain ⟨q, hq, hro⟩ := hfz.wr.rep k _ (Store.set_self _ _ _)
        cases hp.symm.trans hq
        refine ⟨_, hfz, fun l => ?_, fun _ _ h => .inl h, isRow hb hlc had hro.2.2.2, rfl⟩
        by_cases hl : l = k
        · subst hl; exact .inr ⟨n', es, hk, Store.set_self _ _ _⟩
        · rcases hcur l with g | g
          · exact .inl (by show (cur.set k _) l = _; rw [Store.set_ne _ _ hl]; exact g)
          · obtain ⟨a1, a2, a3, a4⟩ := g
            exact .inr ⟨a1, a2, a3, by show (cur.set k _) l = _; rw [Store.set_ne _ _ hl]; exact a4⟩
      · rw [hk] at hc1; cases hc1
        obtain ⟨q, hq, hro⟩ := h.wr.rep k _ hc2
        cases hp.symm.trans hq
        have hsame : cur.set k (.froz n' es) = cur := by
          funext l
          by_cases hl : l = k
          · subst hl; rw [Store.set_self, hc2]
          · rw [Store.set_ne _ _ hl]
        refine ⟨F, ?_, ?_, fun _ _ h => h, isRow hb hlc had hro.2.2.2, rfl⟩
        · show Inv c F pl { st with ob := cur.set k (.froz n' es) } a w
          rw [hsame]; exact h
        · show Frozen st.ob (cur.set k (.froz n' es))
          rw [hsame]; exact hcur
    · rename_i n' es hk
      split at hf <;> try contradiction
      rename_i hb
      obtain ⟨rfl, hb⟩ := hb
      simp only [Option.some.injEq, Prod.mk.injEq] at hf
      obtain ⟨rfl, rfl⟩ := hf
      have hc : cur k = some (.froz n' es) := by
        rcases hcur k with hc | ⟨_, _, hc1, _⟩
        · rw [hc, hk]
        · rw [hk] at hc1; cases hc1
      obtain ⟨q, hq, hro⟩ := h.wr.rep k _ hc
      cases hp.symm.trans hq
      exact ⟨F, h, hcur, fun _ _ h => h, isRow hb hlc had hro.2.2.2, rfl⟩
    · cases hf

theorem frzL_sound {c : Ctx} {pl : Places} {st : St} {a : Act} {w : World} : ∀ (xs : List V) (cs : List Value) {F : Cells} {cur : Store} (_ : Inv c F pl { st with ob := cur } a w) (_ : Frozen st.ob cur) {ys : List V} {ups : List (Key × Obj)},
    cs.length = xs.length → (∀ (i : Nat) x cv, xs[i]? = some x → cs[i]? = some cv → RepV F (memOf w) pl x cv) → xs.all scal = true → frzL st.ob xs = some (ys, ups) →
    ∃ F', Inv c F' pl { st with ob := cur.sets ups } a w ∧ Frozen st.ob (cur.sets ups) ∧ (∀ b o, F b o → F' b o) ∧ ys.length = xs.length ∧ ys.all scal = true ∧ ∀ (i : Nat) y cv, ys[i]? = some y → cs[i]? = some cv → RepV F' (memOf w) noPl y cv := by
  intro xs
  induction xs with
  | nil =>
    intro cs F cur h hcur ys ups _ _ _ hf
    simp only [frzL, Option.some.injEq, Prod.mk.injEq] at hf
    obtain ⟨rfl, rfl⟩ := hf
    exact ⟨F, h, hcur, fun _ _ h => h, rfl, rfl, fun i y cv hy => by simp at hy⟩
  | cons x xs ih =>
    intro cs F cur h hcur ys ups hl hr hs hf
    cases cs with
    | nil => simp at hl
    | cons cv cs =>
      simp only [List.all_cons, Bool.and_eq_true] at hs
      simp only [frzL] at hf
      split at hf <;> try contradiction
      rename_i y u hy
      split at hf <;> try contradiction
      rename_i ys' us hys
      simp only [Option.some.injEq, Prod.mk.injEq] at hf
      obtain ⟨rfl, rfl⟩ := hf
      obtain ⟨F1, i1, i2, i3, i4, i5⟩ := frzC_sound h hcur (hr 0 x cv rfl rfl) hs.1 hy
      obtain ⟨F2, j1, j2, j3, j4, j5, j6⟩ := ih cs i1 i2 (by simpa using hl) (fun i x cv hx hc => (hr (i + 1) x cv (by simpa using hx) (by simpa using hc)).mono (fun b o hb => ⟨i3 b o hb, rfl⟩) (fun _ _ h => h)) hs.2 hys
      refine ⟨F2, by rw [Store.sets_append]; exact j1, by rw [Store.sets_append]; exact j2, fun b o hb => j3 b o (i3 b o hb), by simp [j4], by simp [i5, j5], fun i z c hz hc => ?_⟩
      cases i with
      | zero =>
        simp only [List.getElem?_cons_zero, Option.some.injEq] at hz hc
        subst hz hc
        exact i4.mono (fun b o hb => ⟨j3 b o hb, rfl⟩) (fun _ _ h => h)
      | succ i => exact j6 i z c (by simpa using hz) (by simpa using hc)

/-- What stands in a row after it is put there. -/
theorem frz_sound {c : Ctx} {F : Cells} {pl : Places} {st : St} {cur : Store} {a : Act} {w : World} (h : Inv c F pl { st with ob := cur } a w) (hcur : Frozen st.ob cur) {x x' : V} {ups : List (Key × Obj)} {cv : Value}
    (hx : RepV F (memOf w) pl x cv) (hs : x.cells.all scal = true) (hf : frz st.ob x = some (x', ups)) :
    ∃ F', Inv c F' pl { st with ob := cur.sets ups } a w ∧ Frozen st.ob (cur.sets ups) ∧ (∀ b o, F b o → F' b o) ∧ x'.cells.length = x.cells.length ∧ x'.cells.all scal = true ∧
      RepV F' (memOf w) noPl x' cv := by
  by_cases ha : ∃ cs, x = .agg cs
  · obtain ⟨cs, rfl⟩ := ha
    obtain ⟨ca, rfl, h1, h2⟩ := hx.agg_inv
    simp only [frz] at hf
    obtain ⟨r, hr, e⟩ := Option.map_eq_some_iff.1 hf
    obtain ⟨ys, us⟩ := r
    simp only [Prod.mk.injEq] at e
    obtain ⟨rfl, rfl⟩ := e
    obtain ⟨F', j1, j2, j3, j4, j5, j6⟩ := frzL_sound cs ca.toList h hcur (by simpa using h1) (fun i x cv hx hc => by
      obtain ⟨g1, g2⟩ := List.getElem?_eq_some_iff.1 hc
      have := h2 i x (by simpa using g1) hx
      simp at g2; rw [← g2]; exact this) hs hr
    refine ⟨F', j1, j2, j3, j4, j5, .agg ca (by rw [h1]; exact j4.symm) (fun i y hi hy => j6 i y _ hy (by simp [hi]))⟩
  · have hv : x.cells = [x] := by cases x <;> first | rfl | exact absurd ⟨_, rfl⟩ ha
    have hf' : frzC st.ob x = some (x', ups) := by cases x <;> first | exact hf | exact absurd ⟨_, rfl⟩ ha
    rw [hv] at hs
    obtain ⟨F', j1, j2, j3, j4, j5⟩ := frzC_sound h hcur hx (by simpa using hs) hf'
    have hv' : x'.cells = [x'] := (rep_one j4 j5).2.2
    exact ⟨F', j1, j2, j3, by rw [hv, hv']; rfl, by rw [hv']; simpa using j5, j4⟩
end Go.Eng
