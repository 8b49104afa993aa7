import Derived.Deep.AppendSrc
import Derived.Deep.Upon
import Derived.Test.YtpfmaiiolifblaaXEng4
/- A machine of values for the program's code, part 7: operations that make, read and change objects. -/
namespace Go.Eng
open Go.RowKit

def Store.sets (ob : Store) : List (Key × Obj) → Store
  | [] => ob
  | u :: r => Store.sets (ob.set u.1 u.2) r

theorem Store.sets_append (ob : Store) (l r : List (Key × Obj)) : ob.sets (l ++ r) = (ob.sets l).sets r := by
  induction l generalizing ob with
  | nil => rfl
  | cons u t ih => exact ih _

def okE (n : Nat) (x : V) : Bool := x.cells.length == n && x.cells.all scal

/-- A cell that may stand in a row: what it names is never written again. -/
def frzC (get : Store) : V → Option (V × List (Key × Obj))
  | .lp .. => none
  | .fn f cs => if (mentsL cs).isEmpty then some (.fn f cs, []) else none
  | .ls k n i len => match get k with
    | some (.arr true n' es) => if n' = n ∧ i + len ≤ es.length then some (.is n ((es.drop i).take len), [(k, .froz n es)]) else none
    | some (.froz n' es) => if n' = n ∧ i + len ≤ es.length then some (.is n ((es.drop i).take len), []) else none
    | _ => none
  | v => some (v, [])

def frzL (get : Store) : List V → Option (List V × List (Key × Obj))
  | [] => some ([], [])
  | x :: xs => match frzC get x with
    | some (y, u) => match frzL get xs with
      | some (ys, us) => some (y :: ys, u ++ us)
      | none => none
    | none => none

def frz (get : Store) (x : V) : Option (V × List (Key × Obj)) :=
  match x with
  | .agg cs => (frzL get cs).map fun r => (.agg r.1, r.2)
  | v => frzC get v

/-- `cur` is `old` but that some rows are no longer written. -/
def Frozen (old cur : Store) : Prop := ∀ k, cur k = old k ∨ ∃ n es, old k = some (.arr true n es) ∧ cur k = some (.froz n es)

theorem mentsL_nil {vs : List V} (h : mentsL vs = []) : ∀ v ∈ vs, v.ments = [] := by
  intro v hv
  cases hm : v.ments with
  | nil => rfl
  | cons k r => have := ments_mem hv k (by rw [hm]; simp); rw [h] at this; cases this

theorem isRow {F : Cells} {m : Mem} {pl : Places} {b o n i len cap : Nat} {a : Addr} {es : List V} (hle : i + len ≤ es.length) (hcap : len ≤ cap) (ha : cap ≠ 0 → a = ⟨b, o + i * n, none⟩)
    (hr : ∀ (j : Nat) e, es[j]? = some e → RepE F m noPl b (o + j * n) n e ∧ ∀ c, c < n → F b (o + j * n + c)) :
    RepV F m pl (.is n ((es.drop i).take len)) (.slice (some a) len cap) := by
  have hlen : ((es.drop i).take len).length = len := by simp; omega
  have hget : ∀ (j : Nat) e, ((es.drop i).take len)[j]? = some e → es[i + j]? = some e ∧ cap ≠ 0 := by
    intro j e he
    simp only [List.getElem?_take, List.getElem?_drop] at he
    split at he
    · exact ⟨he, by omega⟩
    · cases he
  let cf : Nat → Nat → Value := fun j c => (m b (o + (i + j) * n + c)).getD undef
  have hcf : ∀ (j : Nat) e (c : Nat) x, es[i + j]? = some e → e.cells[c]? = some x → scal x = true ∧ F b (o + (i + j) * n + c) ∧ m b (o + (i + j) * n + c) = some (cf j c) ∧ RepV F m noPl x (cf j c) := by
    intro j e c x he hx
    obtain ⟨⟨h1, h2⟩, h3⟩ := hr _ e he
    obtain ⟨g1, cv, g2, g3⟩ := h2 c x hx
    have e1 : cf j c = cv := by simp only [cf, g2, Option.getD_some]
    exact ⟨g1, h3 c (by rw [← h1]; exact (List.getElem?_eq_some_iff.1 hx).1), by rw [e1]; exact g2, by rw [e1]; exact g3⟩
  have ha' : ∀ (j : Nat) e, ((es.drop i).take len)[j]? = some e → a.block = b ∧ a.off = o + i * n := by
    intro j e he
    rw [ha (hget j e he).2]; exact ⟨rfl, rfl⟩
  have := RepV.is (F := F) (m := m) (pl := pl) (es := (es.drop i).take len) (a := a) (cap := cap) (n := n) cf (by omega) (fun hne => by
      have : cap ≠ 0 := by
        intro h0
        apply hne
        apply List.eq_nil_of_length_eq_zero
        omega
      rw [ha this])
    (fun j e he => (hr _ e (hget j e he).1).1.1) (fun j e c x he hx => by
      obtain ⟨k1, k2⟩ := ha' j e he
      obtain ⟨g1, g2, g3, _⟩ := hcf j e c x (hget j e he).1 hx
      rw [k1, k2, show o + i * n + j * n + c = o + (i + j) * n + c by rw [Nat.add_mul]; omega]
      exact ⟨g1, g2, g3⟩) (fun j e c x he hx => (hcf j e c x (hget j e he).1 hx).2.2.2)
  rw [hlen] at this
  exact this

theorem frzC_sound {c : Ctx} {F : Cells} {pl : Places} {st : St} {cur : Store} {a : Act} {w : World} (h : Inv c F pl { st with ob := cur } a w) (hcur : Frozen st.ob cur) {x x' : V} {ups : List (Key × Obj)} {cv : Value}
    (hx : RepV F (memOf w) pl x cv) (hs : scal x = true) (hf : frzC st.ob x = some (x', ups)) :
    ∃ F', Inv c F' pl { st with ob := cur.sets ups } a w ∧ Frozen st.ob (cur.sets ups) ∧ (∀ b o, F b o → F' b o) ∧ RepV F' (memOf w) noPl x' cv ∧ scal x' = true := by
  have plain : x.ments = [] → x' = x → ups = [] → ∃ F', Inv c F' pl { st with ob := cur.sets ups } a w ∧ Frozen st.ob (cur.sets ups) ∧ (∀ b o, F b o → F' b o) ∧ RepV F' (memOf w) noPl x' cv ∧ scal x' = true := by
    rintro hm rfl rfl
    exact ⟨F, h, hcur, fun _ _ h => h, hx.places (fun k p hk => by rw [hm] at hk; cases hk), hs⟩
  cases x with
  | un => simp [scal] at hs
  | agg cs => simp [scal] at hs
  | tup cs => simp [scal] at hs
  | lp k n i o => simp [frzC] at hf
  | lit v => simp only [frzC, Option.some.injEq, Prod.mk.injEq] at hf; exact plain rfl hf.1.symm hf.2.symm
  | e0 => simp only [frzC, Option.some.injEq, Prod.mk.injEq] at hf; exact plain rfl hf.1.symm hf.2.symm
  | ip n es i o => simp only [frzC, Option.some.injEq, Prod.mk.injEq] at hf; exact plain rfl hf.1.symm hf.2.symm
  | is n es => simp only [frzC, Option.some.injEq, Prod.mk.injEq] at hf; exact plain rfl hf.1.symm hf.2.symm
  | fn f cs =>
    simp only [frzC] at hf
    split at hf
    · rename_i hm
      simp only [Option.some.injEq, Prod.mk.injEq] at hf
      exact plain (by simpa [V.ments, List.isEmpty_iff] using hm) hf.1.symm hf.2.symm
    · cases hf
  | ls k n i len =>
    obtain ⟨p, ad, cap, hp, hpn, hlc, hic, had, rfl⟩ := hx.ls_inv
    simp only [frzC] at hf
    split at hf
    · rename_i n' es hk
      split at hf <;> try contradiction
      rename_i hb
      obtain ⟨rfl, hb⟩ := hb
      simp only [Option.some.injEq, Prod.mk.injEq] at hf
      obtain ⟨rfl, rfl⟩ := hf
      rcases hcur k with hc | ⟨n'', es'', hc1, hc2⟩
      · rw [hk] at hc
        have hfz := h.freeze hc hp
        obtain ⟨q, hq, hro⟩ := hfz.wr.rep k _ (Store.set_self _ _ _)
        cases hp.symm.trans hq
        refine ⟨_, hfz, fun l => ?_, fun _ _ h => .inl h, isRow hb hlc had hro.2.2.2, rfl⟩
        by_cases hl : l = k
        · subst hl; exact .inr ⟨n', es, hk, Store.set_self _ _ _⟩
        · rcases hcur l with g | g
          · exact .inl (by show (cur.set k _) l = _; rw [Store.set_ne _ _ hl]; exact g)
          · obtain ⟨a1, a2, a3, a4⟩ := g
            exact .inr ⟨a1, a2, a3, by show (cur.set k _) l = _; rw [Store.set_ne _ _ hl]; exact a4⟩
      · rw [hk] at hc1; cases hc1
        obtain ⟨q, hq, hro⟩ := h.wr.rep k _ hc2
        cases hp.symm.trans hq
        have hsame : cur.set k (.froz n' es) = cur := by
          funext l
          by_cases hl : l = k
          · subst hl; rw [Store.set_self, hc2]
          · rw [Store.set_ne _ _ hl]
        refine ⟨F, ?_, ?_, fun _ _ h => h, isRow hb hlc had hro.2.2.2, rfl⟩
        · show Inv c F pl { st with ob := cur.set k (.froz n' es) } a w
          rw [hsame]; exact h
        · show Frozen st.ob (cur.set k (.froz n' es))
          rw [hsame]; exact hcur
    · rename_i n' es hk
      split at hf <;> try contradiction
      rename_i hb
      obtain ⟨rfl, hb⟩ := hb
      simp only [Option.some.injEq, Prod.mk.injEq] at hf
      obtain ⟨rfl, rfl⟩ := hf
      have hc : cur k = some (.froz n' es) := by
        rcases hcur k with hc | ⟨_, _, hc1, _⟩
        · rw [hc, hk]
        · rw [hk] at hc1; cases hc1
      obtain ⟨q, hq, hro⟩ := h.wr.rep k _ hc
      cases hp.symm.trans hq
      exact ⟨F, h, hcur, fun _ _ h => h, isRow hb hlc had hro.2.2.2, rfl⟩
    · cases hf

theorem frzL_sound {c : Ctx} {pl : Places} {st : St} {a : Act} {w : World} : ∀ (xs : List V) (cs : List Value) {F : Cells} {cur : Store} (_ : Inv c F pl { st with ob := cur } a w) (_ : Frozen st.ob cur) {ys : List V} {ups : List (Key × Obj)},
    cs.length = xs.length → (∀ (i : Nat) x cv, xs[i]? = some x → cs[i]? = some cv → RepV F (memOf w) pl x cv) → xs.all scal = true → frzL st.ob xs = some (ys, ups) →
    ∃ F', Inv c F' pl { st with ob := cur.sets ups } a w ∧ Frozen st.ob (cur.sets ups) ∧ (∀ b o, F b o → F' b o) ∧ ys.length = xs.length ∧ ys.all scal = true ∧ ∀ (i : Nat) y cv, ys[i]? = some y → cs[i]? = some cv → RepV F' (memOf w) noPl y cv := by
  intro xs
  induction xs with
  | nil =>
    intro cs F cur h hcur ys ups _ _ _ hf
    simp only [frzL, Option.some.injEq, Prod.mk.injEq] at hf
    obtain ⟨rfl, rfl⟩ := hf
    exact ⟨F, h, hcur, fun _ _ h => h, rfl, rfl, fun i y cv hy => by simp at hy⟩
  | cons x xs ih =>
    intro cs F cur h hcur ys ups hl hr hs hf
    cases cs with
    | nil => simp at hl
    | cons cv cs =>
      simp only [List.all_cons, Bool.and_eq_true] at hs
      simp only [frzL] at hf
      split at hf <;> try contradiction
      rename_i y u hy
      split at hf <;> try contradiction
      rename_i ys' us hys
      simp only [Option.some.injEq, Prod.mk.injEq] at hf
      obtain ⟨rfl, rfl⟩ := hf
      obtain ⟨F1, i1, i2, i3, i4, i5⟩ := frzC_sound h hcur (hr 0 x cv rfl rfl) hs.1 hy
      obtain ⟨F2, j1, j2, j3, j4, j5, j6⟩ := ih cs i1 i2 (by simpa using hl) (fun i x cv hx hc => (hr (i + 1) x cv (by simpa using hx) (by simpa using hc)).mono (fun b o hb => ⟨i3 b o hb, rfl⟩) (fun _ _ h => h)) hs.2 hys
      refine ⟨F2, by rw [Store.sets_append]; exact j1, by rw [Store.sets_append]; exact j2, fun b o hb => j3 b o (i3 b o hb), by simp [j4], by simp [i5, j5], fun i z c hz hc => ?_⟩
      cases i with
      | zero =>
        simp only [List.getElem?_cons_zero, Option.some.injEq] at hz hc
        subst hz hc
        exact i4.mono (fun b o hb => ⟨j3 b o hb, rfl⟩) (fun _ _ h => h)
      | succ i => exact j6 i z c (by simpa using hz) (by simpa using hc)

/-- What stands in a row after it is put there. -/
theorem frz_sound {c : Ctx} {F : Cells} {pl : Places} {st : St} {cur : Store} {a : Act} {w : World} (h : Inv c F pl { st with ob := cur } a w) (hcur : Frozen st.ob cur) {x x' : V} {ups : List (Key × Obj)} {cv : Value}
    (hx : RepV F (memOf w) pl x cv) (hs : x.cells.all scal = true) (hf : frz st.ob x = some (x', ups)) :
    ∃ F', Inv c F' pl { st with ob := cur.sets ups } a w ∧ Frozen st.ob (cur.sets ups) ∧ (∀ b o, F b o → F' b o) ∧ x'.cells.length = x.cells.length ∧ x'.cells.all scal = true ∧
      RepV F' (memOf w) noPl x' cv := by
  by_cases ha : ∃ cs, x = .agg cs
  · obtain ⟨cs, rfl⟩ := ha
    obtain ⟨ca, rfl, h1, h2⟩ := hx.agg_inv
    simp only [frz] at hf
    obtain ⟨r, hr, e⟩ := Option.map_eq_some_iff.1 hf
    obtain ⟨ys, us⟩ := r
    simp only [Prod.mk.injEq] at e
    obtain ⟨rfl, rfl⟩ := e
    obtain ⟨F', j1, j2, j3, j4, j5, j6⟩ := frzL_sound cs ca.toList h hcur (by simpa using h1) (fun i x cv hx hc => by
      obtain ⟨g1, g2⟩ := List.getElem?_eq_some_iff.1 hc
      have := h2 i x (by simpa using g1) hx
      simp at g2; rw [← g2]; exact this) hs hr
    refine ⟨F', j1, j2, j3, j4, j5, .agg ca (by rw [h1]; exact j4.symm) (fun i y hi hy => j6 i y _ hy (by simp [hi]))⟩
  · have hv : x.cells = [x] := by cases x <;> first | rfl | exact absurd ⟨_, rfl⟩ ha
    have hf' : frzC st.ob x = some (x', ups) := by cases x <;> first | exact hf | exact absurd ⟨_, rfl⟩ ha
    rw [hv] at hs
    obtain ⟨F', j1, j2, j3, j4, j5⟩ := frzC_sound h hcur hx (by simpa using hs) hf'
    have hv' : x'.cells = [x'] := (rep_one j4 j5).2.2
    exact ⟨F', j1, j2, j3, by rw [hv, hv']; rfl, by rw [hv']; simpa using j5, j4⟩
end Go.Eng

/- A machine of values for the program's code, part 8: operations that make, read and change objects. -/
namespace Go.Eng
open Go.RowKit

/-- A row of elements in memory. -/
def RowAt (F : Cells) (m : Mem) (pl : Places) (b o n : Nat) (es : List V) : Prop := ∀ (j : Nat) e, es[j]? = some e → RepE F m pl b (o + j * n) n e

theorem RowAt.cut {F : Cells} {m : Mem} {pl : Places} {b o n : Nat} {es : List V} (h : RowAt F m pl b o n es) (i len : Nat) : RowAt F m pl b (o + i * n) n ((es.drop i).take len) := by
  intro j e he
  simp only [List.getElem?_take, List.getElem?_drop] at he
  split at he
  · have := h (i + j) e he
    rw [Nat.add_mul] at this
    rw [Nat.add_assoc]; exact this
  · cases he

theorem divMod {n : Nat} (hn : 0 < n) {q len : Nat} (h : q < len * n) : ∃ j c, j < len ∧ c < n ∧ q = j * n + c :=
  ⟨q / n, q % n, Nat.div_lt_of_lt_mul (by rw [Nat.mul_comm]; exact h), Nat.mod_lt _ hn, by rw [Nat.mul_comm]; exact (Nat.div_add_mod q n).symm⟩

/-- The cells of a row, as a list. -/
theorem RowAt.list {F : Cells} {m : Mem} {pl : Places} {b o n : Nat} {es : List V} (h : RowAt F m pl b o n es) (hn : 0 < n) :
    ∃ cs : List Value, cs.length = es.length * n ∧ (∀ (q : Nat) v, cs[q]? = some v → m b (o + q) = some v) ∧ (∀ v ∈ cs, v.oneCell' = true) ∧
      ∀ (j : Nat) e (c : Nat) x, es[j]? = some e → e.cells[c]? = some x → scal x = true ∧ ∃ cv, cs[j * n + c]? = some cv ∧ RepV F m pl x cv := by
  let f : Nat → Value := fun q => (m b (o + q)).getD undef
  have hf : ∀ (j : Nat) e (c : Nat) x, es[j]? = some e → e.cells[c]? = some x → scal x = true ∧ m b (o + (j * n + c)) = some (f (j * n + c)) ∧ RepV F m pl x (f (j * n + c)) := by
    intro j e c x he hx
    obtain ⟨g1, cv, g2, g3⟩ := (h j e he).2 c x hx
    rw [Nat.add_assoc] at g2
    have : f (j * n + c) = cv := by simp only [f, g2, Option.getD_some]
    exact ⟨g1, by rw [this]; exact g2, by rw [this]; exact g3⟩
  have hq : ∀ q, q < es.length * n → ∃ j e c x, es[j]? = some e ∧ e.cells[c]? = some x ∧ q = j * n + c := by
    intro q hq
    obtain ⟨j, c, hj, hc, e⟩ := divMod hn hq
    have he := List.getElem?_eq_getElem hj
    have hl := (h j _ he).1
    exact ⟨j, _, c, _, he, List.getElem?_eq_getElem (by rw [hl]; exact hc), e⟩
  refine ⟨(List.range (es.length * n)).map f, by simp, fun q v hv => ?_, fun v hv => ?_, fun j e c x he hx => ?_⟩
  · simp only [List.getElem?_map, Option.map_eq_some_iff] at hv
    obtain ⟨q', hq', rfl⟩ := hv
    obtain ⟨g1, g2⟩ := List.getElem?_eq_some_iff.1 hq'
    simp at g1 g2; subst g2
    obtain ⟨j, e, c, x, he, hx, rfl⟩ := hq q g1
    exact (hf j e c x he hx).2.1
  · simp only [List.mem_map, List.mem_range] at hv
    obtain ⟨q, hq', rfl⟩ := hv
    obtain ⟨j, e, c, x, he, hx, rfl⟩ := hq q hq'
    obtain ⟨g1, _, g3⟩ := hf j e c x he hx
    exact (rep_one g3 g1).1
  · obtain ⟨g1, _, g3⟩ := hf j e c x he hx
    refine ⟨g1, _, ?_, g3⟩
    have h1 := (List.getElem?_eq_some_iff.1 he).1
    have h2 := (List.getElem?_eq_some_iff.1 hx).1
    rw [(h j e he).1] at h2
    have : j * n + c < es.length * n := by
      have := Nat.mul_le_mul_right n (show j + 1 ≤ es.length by omega)
      rw [Nat.add_mul] at this; omega
    simp [this]

/-- Where an object lies, and that it lies there as a row. -/
theorem live_row {F : Cells} {pl : Places} {ob : Store} {w : World} (h : WR F pl ob w) {k : Key} {kf : Bool} {n : Nat} {es : List V} (hk : ob k = some (.arr kf n es)) :
    ∃ p, pl k = some p ∧ p.n = n ∧ 0 < n ∧ es.length ≤ p.C ∧ RowAt F (memOf w) (Obj.plc kf pl) p.b p.base n es ∧ ∀ o, p.has p.b o → (memOf w p.b o).isSome ∧ ¬ frozOf w p.b o ∧ ¬ F p.b o := by
  obtain ⟨p, hp, h1, h2, h3, h4, h5⟩ := h.rep k _ hk
  exact ⟨p, hp, h1, h2, h3, h5, h4⟩

theorem froz_row {F : Cells} {pl : Places} {ob : Store} {w : World} (h : WR F pl ob w) {k : Key} {n : Nat} {es : List V} (hk : ob k = some (.froz n es)) :
    ∃ p, pl k = some p ∧ p.n = n ∧ 0 < n ∧ es.length ≤ p.C ∧ RowAt F (memOf w) noPl p.b p.base n es := by
  obtain ⟨p, hp, h1, h2, h3, h4⟩ := h.rep k _ hk
  exact ⟨p, hp, h1, h2, h3, fun j e he => (h4 j e he).1⟩

/-- What a row that is appended or copied holds: its elements. `st`: a string may stand there, too. -/
def srcV (get : Store) (n : Nat) (st : Bool) (x : V) : Option (List V) :=
  match st, x with
  | false, .lit (.slice none 0 0) => some []
  | false, .lit (.slice (some _) 0 _) => some []
  | false, .e0 => some []
  | false, .is n' es => if n' = n then some es else none
  | false, .ls k n' i len => match get k with
    | some (.arr true n'' es) => if n' = n ∧ n'' = n ∧ i + len ≤ es.length then some ((es.drop i).take len) else none
    | some (.froz n'' es) => if n' = n ∧ n'' = n ∧ i + len ≤ es.length then some ((es.drop i).take len) else none
    | _ => none
  | true, .lit (.string s) => if n = 1 then some (s.data.toList.map fun b => .lit (.int .u8 b.toNat)) else none
  | _, _ => none

theorem RowAt.noPl {F : Cells} {m : Mem} {pl : Places} {b o n : Nat} {es : List V} (h : RowAt F m noPl b o n es) : RowAt F m pl b o n es :=
  fun j e he => ⟨(h j e he).1, fun c x hx => let ⟨g1, cv, g2, g3⟩ := (h j e he).2 c x hx; ⟨g1, cv, g2, g3.ofNo⟩⟩

section
variable {P : Program} {tt : TT}

theorem src_sound {F : Cells} {pl : Places} {ob : Store} {w : World} (h : WR F pl ob w) {n : Nat} (hn : 0 < n) {tx : TypeId} {stb : Bool}
    (hk : (stb = false ∧ ∃ e', P.underlying tx = some (.slice e')) ∨ (stb = true ∧ P.underlying tx = some .string)) {x : V} {cx : Value} (hx : RepV F (memOf w) pl x cx) {es : List V} (hs : srcV ob n stb x = some es) :
    ∃ news : List Value, Src P n tx cx es.length news w ∧ (∀ (j : Nat) e, es[j]? = some e → e.cells.length = n) ∧
      (∀ (j : Nat) e (c : Nat) y, es[j]? = some e → e.cells[c]? = some y → scal y = true ∧ ∃ cv, news[j * n + c]? = some cv ∧ RepV F (memOf w) noPl y cv) ∧
      (stb = false → ∀ q, q ≤ es.length → (Builtin.firstCells n q cx).run P w = .ok (news.take (q * n)).toArray w) := by
  have row : ∀ {b o : Nat} {es : List V} {a : Addr} {cap : Nat}, RowAt F (memOf w) Eng.noPl b o n es → (es ≠ [] → a = ⟨b, o, none⟩) → stb = false → ∃ news : List Value, Src P n tx (.slice (some a) es.length cap) es.length news w ∧
      (∀ (j : Nat) e, es[j]? = some e → e.cells.length = n) ∧
      (∀ (j : Nat) e (c : Nat) y, es[j]? = some e → e.cells[c]? = some y → scal y = true ∧ ∃ cv, news[j * n + c]? = some cv ∧ RepV F (memOf w) Eng.noPl y cv) ∧
      (stb = false → ∀ q, q ≤ es.length → (Builtin.firstCells n q (.slice (some a) es.length cap)).run P w = .ok (news.take (q * n)).toArray w) := by
    intro b o es a cap hr ha hst
    obtain ⟨cs, g1, g2, g3, g4⟩ := hr.list hn
    rcases hk with ⟨_, e', hk⟩ | ⟨h1, _⟩
    · have hcell : ∀ j u, cs[j]? = some u → w.cell? (a.add j) = some u := by
        intro j u hu
        have hne : es ≠ [] := by
          rintro rfl
          rw [List.length_nil, Nat.zero_mul] at g1
          rw [List.eq_nil_of_length_eq_zero g1] at hu; simp at hu
        rw [ha hne, add_none]
        exact g2 j u hu
      refine ⟨cs, Src.ofSlice w hk a es.length cap cs g1 hcell g3, fun j e he => (hr j e he).1, g4, fun _ q hq => ?_⟩
      refine run_firstCells_some w n q a es.length cap _ ?_ (fun j u hu => hcell j u ?_)
      · rw [List.length_take, g1]
        exact Nat.min_eq_left (Nat.mul_le_mul_right _ hq)
      · rw [List.getElem?_take] at hu
        split at hu
        · exact hu
        · cases hu
    · rw [hst] at h1; cases h1
  unfold srcV at hs
  split at hs
  · -- nil
    cases hx.lit_inv; cases hs
    rcases hk with ⟨_, e', hk⟩ | ⟨h1, _⟩
    · exact ⟨[], Src.ofNil w hk 0, fun j e he => by simp at he, fun j e c y he => by simp at he, fun _ q hq => by simpa using run_firstCells_none w n q 0 0⟩
    · cases h1
  · cases hx.lit_inv; cases hs
    rename_i hst
    exact row (b := 0) (o := 0) (es := []) (fun j e he => by simp at he) (fun h => absurd rfl h) rfl
  · obtain ⟨a, rfl⟩ := hx.e0_inv
    cases hs
    cases a with
    | none =>
      rcases hk with ⟨_, e', hk⟩ | ⟨h1, _⟩
      · exact ⟨[], Src.ofNil w hk 0, fun j e he => by simp at he, fun j e c y he => by simp at he, fun _ q hq => by simpa using run_firstCells_none w n q 0 0⟩
      · cases h1
    | some a => exact row (b := 0) (o := 0) (es := []) (fun j e he => by simp at he) (fun h => absurd rfl h) rfl
  · rename_i n' es'
    split at hs <;> try contradiction
    rename_i hn'
    subst hn'
    cases hs
    obtain ⟨rfl, rfl⟩ | ⟨a, cap, cf, hcap, hsp, h1, h2, h3, rfl⟩ := hx.is_inv
    · rcases hk with ⟨_, e', hk⟩ | ⟨h1, _⟩
      · exact ⟨[], Src.ofNil w hk 0, fun j e he => by simp at he, fun j e c y he => by simp at he, fun _ q hq => by simpa using run_firstCells_none w _ q 0 0⟩
      · cases h1
    refine row (b := a.block) (o := a.off) (fun j e he => ⟨h1 j e he, fun c x hx => ⟨(h2 j e c x he hx).1, cf j c, (h2 j e c x he hx).2.2, h3 j e c x he hx⟩⟩) (fun hne => ?_) rfl
    have := hsp hne
    obtain ⟨ab, ao, asp⟩ := a
    simp at this; subst this; rfl
  · rename_i k n' i len
    obtain ⟨p, a, cap, hp, hpn, hlc, hic, ha, rfl⟩ := hx.ls_inv
    have go : ∀ {es'' : List V}, RowAt F (memOf w) Eng.noPl p.b p.base n es'' → n' = n → i + len ≤ es''.length → some ((es''.drop i).take len) = some es → ∃ news : List Value, Src P n tx (.slice (some a) len cap) es.length news w ∧
        (∀ (j : Nat) e, es[j]? = some e → e.cells.length = n) ∧
        (∀ (j : Nat) e (c : Nat) y, es[j]? = some e → e.cells[c]? = some y → scal y = true ∧ ∃ cv, news[j * n + c]? = some cv ∧ RepV F (memOf w) Eng.noPl y cv) ∧
        (false = false → ∀ q, q ≤ es.length → (Builtin.firstCells n q (.slice (some a) len cap)).run P w = .ok (news.take (q * n)).toArray w) := by
      intro es'' hr hn' hb he
      cases he
      have hlen : ((es''.drop i).take len).length = len := by simp; omega
      have := row (a := a) (cap := cap) (hr.cut i len) (fun hne => by
        rw [ha (by
          rintro rfl
          apply hne
          apply List.eq_nil_of_length_eq_zero; omega), hn']) rfl
      rw [hlen] at this ⊢
      exact this
    split at hs
    · rename_i n'' es'' hk'
      split at hs <;> try contradiction
      rename_i hb
      obtain ⟨b1, b2, b3⟩ := hb
      obtain ⟨q, hq, _, _, _, hr, _⟩ := live_row h hk'
      cases hp.symm.trans hq
      rw [b2] at hr
      exact go hr b1 b3 hs
    · rename_i n'' es'' hk'
      split at hs <;> try contradiction
      rename_i hb
      obtain ⟨b1, b2, b3⟩ := hb
      obtain ⟨q, hq, _, _, _, hr⟩ := froz_row h hk'
      cases hp.symm.trans hq
      rw [b2] at hr
      exact go hr b1 b3 hs
    · cases hs
  · rename_i s
    split at hs <;> try contradiction
    rename_i h1
    subst h1
    cases hs
    cases hx.lit_inv
    rcases hk with ⟨h1, _⟩ | ⟨_, hk⟩
    · cases h1
    · have hsrc := Src.ofString (P := P) w hk s
      refine ⟨byteCells s, by simpa using hsrc, fun j e he => ?_, fun j e c y he hy => ?_, fun h => by cases h⟩
      · simp only [List.getElem?_map, Option.map_eq_some_iff] at he
        obtain ⟨u, _, rfl⟩ := he; rfl
      · simp only [List.getElem?_map, Option.map_eq_some_iff] at he
        obtain ⟨u, hu, rfl⟩ := he
        have : c = 0 := by
          have := (List.getElem?_eq_some_iff.1 hy).1
          simp [V.cells] at this; exact this
        subst this
        simp only [V.cells, List.getElem?_cons_zero, Option.some.injEq] at hy; subst hy
        refine ⟨rfl, .int .u8 u.toNat, ?_, .lit⟩
        simp [byteCells, hu]
  · cases hs
end
end Go.Eng

/- A machine of values for the program's code, part 9: append. -/
namespace Go.Eng
open Go.RowKit

/-- What an append may come to. -/
def roomOk (total bytes : Nat) : Prop := total * bytes ≤ 140737488355328 ∧ total ≤ 140737488351232
instance (total bytes : Nat) : Decidable (roomOk total bytes) := by unfold roomOk; exact inferInstance

def mentsOne : V → List Key
  | .ls k _ _ _ => [k]
  | _ => []

def appendV (ei : TI) (nk : Key) (get : Store) (xs : List V) (s x : V) : Option (V × List (Key × Obj)) :=
  if ei.size = 0 then none else
  match s with
  | .lit (.slice none 0 0) => if xs = [] then some (nilV, []) else if roomOk xs.length ei.bytes ∧ get nk = none then some (.ls nk ei.size 0 xs.length, [(nk, .arr true ei.size xs)]) else none
  | .e0 => if xs = [] then some (.e0, []) else if roomOk xs.length ei.bytes ∧ get nk = none then some (.ls nk ei.size 0 xs.length, [(nk, .arr true ei.size xs)]) else none
  | .ls k n i len => match get k with
    | some (.arr true n' es) =>
      if n = ei.size ∧ n' = ei.size ∧ i + len ≤ es.length ∧ roomOk (len + xs.length) ei.bytes ∧ get nk = none ∧ k ∉ mentsOne x then
        some (.ls nk ei.size 0 (len + xs.length), [(k, .dead), (nk, .arr true ei.size ((es.drop i).take len ++ xs))])
      else none
    | _ => none
  | _ => none

section
variable {P : Program} {tt : TT}

theorem RowCells.app {F : Cells} {m : Mem} {n : Nat} {es xs : List V} {olds news : List Value} (hol : olds.length = es.length * n)
    (h1 : ∀ (j : Nat) e (c : Nat) y, es[j]? = some e → e.cells[c]? = some y → scal y = true ∧ ∃ cv, olds[j * n + c]? = some cv ∧ RepV F m noPl y cv)
    (h2 : ∀ (j : Nat) e (c : Nat) y, xs[j]? = some e → e.cells[c]? = some y → scal y = true ∧ ∃ cv, news[j * n + c]? = some cv ∧ RepV F m noPl y cv) :
    ∀ (j : Nat) e (c : Nat) y, (es ++ xs)[j]? = some e → e.cells[c]? = some y → scal y = true ∧ ∃ cv, (olds ++ news)[j * n + c]? = some cv ∧ RepV F m noPl y cv := by
  intro j e c y he hy
  by_cases hj : j < es.length
  · rw [List.getElem?_append_left hj] at he
    obtain ⟨g1, cv, g2, g3⟩ := h1 j e c y he hy
    exact ⟨g1, cv, by rw [List.getElem?_append_left (List.getElem?_eq_some_iff.1 g2).1]; exact g2, g3⟩
  · rw [List.getElem?_append_right (by omega)] at he
    obtain ⟨g1, cv, g2, g3⟩ := h2 _ e c y he hy
    refine ⟨g1, cv, ?_, g3⟩
    have : es.length * n ≤ j * n := Nat.mul_le_mul_right _ (by omega)
    rw [List.getElem?_append_right (by omega), hol, ← g2]
    congr 1
    rw [Nat.sub_mul]; omega

/-- A row that grew into new memory. -/
theorem Inv.grown {c : Ctx} {F : Cells} {pl : Places} {st : St} {a : Act} {w : World} (h : Inv c F pl st a w) {k : Key} (hk0 : k.1 ≠ 0) (hk : st.ob k = none) {n : Nat} (hn : 0 < n) {es : List V} {C : Nat} (hC : es.length ≤ C)
    {L : List Value} (hL : L.length = es.length * n) {z : Array Value} (hz : z.size = n) (e : TypeId) (hlen : ∀ (j : Nat) x, es[j]? = some x → x.cells.length = n)
    (hr : ∀ (j : Nat) x (c : Nat) y, es[j]? = some x → x.cells[c]? = some y → scal y = true ∧ ∃ cv, L[j * n + c]? = some cv ∧ RepV F (memOf w) noPl y cv) :
    Inv c F (pl.set k ⟨w.heap.size, 0, n, C⟩) { st with ob := st.ob.set k (.arr true n es) } a (w.drew.alloc (.cells (L.toArray ++ Builtin.zeroCells z (C - es.length)) e)) := by
  have := (h.grow (same_drew w)).make hk0 hk true hn (C := C) (es := es) hC (cs := L.toArray ++ Builtin.zeroCells z (C - es.length)) (by
    simp only [Array.size_append, List.size_toArray, size_zeroCells, hz, hL]
    rw [← Nat.add_mul]; congr 1; omega) e (fun j x hx => ⟨hlen j x hx, fun c y hy => by
      obtain ⟨g1, cv, g2, g3⟩ := hr j x c y hx hy
      refine ⟨g1, cv, ?_, g3⟩
      have := (List.getElem?_eq_some_iff.1 g2).1
      rw [Array.getElem?_append_left (by simpa using this)]
      simpa using g2⟩)
  exact this

theorem setCells_frame (b : Nat) : ∀ (vs : List Value) (o : Nat) (w : World), (w.setCells b o vs).os = w.os ∧ (w.setCells b o vs).tape = w.tape ∧ (w.setCells b o vs).output = w.output ∧ (w.setCells b o vs).heap.size = w.heap.size
  | [], _, _ => ⟨rfl, rfl, rfl, rfl⟩
  | v :: r, o, w => by
    obtain ⟨h1, h2, h3, h4⟩ := setCells_frame b r (o + 1) (w.setCell ⟨b, o, none⟩ v)
    simp only [World.setCells]
    exact ⟨h1, h2, h3, by rw [h4]; simp [World.setCell]⟩

theorem heap_setCells_ne {b b' : Nat} (hb : b' ≠ b) : ∀ (vs : List Value) (o : Nat) (w : World), (w.setCells b o vs).heap[b']? = w.heap[b']?
  | [], _, _ => rfl
  | v :: vs, o, w => by
    simp only [World.setCells]
    rw [heap_setCells_ne hb vs]
    simp only [World.setCell]
    rw [Array.getElem?_modify]
    rw [if_neg (fun e => hb e.symm)]

theorem same_setCells {w : World} {b o : Nat} {vs : List Value} {p : Pl} (hin : ∀ j, j < vs.length → p.has b (o + j)) : Same p.has w (w.setCells b o vs) := by
  obtain ⟨h1, h2, h3, h4⟩ := setCells_frame b vs o w
  refine ⟨h1, h2, h3, Nat.le_of_eq h4.symm, fun b' o' _ hno => ?_, fun b' o' _ _ => ?_, fun b' _ hno => ?_⟩
  · refine World.cell?_setCells_out _ _ _ _ _ (fun hb _ => ?_)
    simp only at hb
    subst hb
    rcases Nat.lt_or_ge o' o with g | g
    · exact .inl g
    · rcases Nat.lt_or_ge o' (o + vs.length) with g' | g'
      · exact absurd (by have := hin (o' - o) (by omega); rwa [show o + (o' - o) = o' by omega] at this) hno
      · exact .inr g'
  · show (w.setCells b o vs).frozen? _ = true ↔ _
    rw [World.frozen?_setCells]; exact Iff.rfl
  · cases vs with
    | nil => rfl
    | cons v vs =>
      have hb : b' ≠ b := fun e => by subst e; exact hno _ (hin 0 (by simp))
      exact heap_setCells_ne hb _ _ _

theorem setCells_in {w : World} {b o : Nat} {vs : List Value} (h : ∀ j, j < vs.length → (memOf w b (o + j)).isSome) {j : Nat} {v : Value} (hv : vs[j]? = some v) : memOf (w.setCells b o vs) b (o + j) = some v := by
  obtain ⟨g1, g2⟩ := List.getElem?_eq_some_iff.1 hv
  have := World.cell?_setCells_in b vs o w h j g1
  show (w.setCells b o vs).cell? _ = _
  rw [this, g2]

theorem setCells_out {w : World} {b o : Nat} {vs : List Value} {q : Nat} (h : q < o ∨ o + vs.length ≤ q) : memOf (w.setCells b o vs) b q = memOf w b q :=
  World.cell?_setCells_out _ _ _ _ _ (fun _ _ => h)

theorem setCells_exists {w : World} {b o : Nat} {vs : List Value} {y : Nat} (hs : ∀ j, j < vs.length → (memOf w b (o + j)).isSome) (h : (memOf w b y).isSome ∧ ¬ frozOf w b y) :
    (memOf (w.setCells b o vs) b y).isSome ∧ ¬ frozOf (w.setCells b o vs) b y := by
  refine ⟨?_, ?_⟩
  · rcases Nat.lt_or_ge y o with g | g
    · rw [setCells_out (.inl g)]; exact h.1
    · rcases Nat.lt_or_ge y (o + vs.length) with g' | g'
      · have := setCells_in hs (j := y - o) (List.getElem?_eq_getElem (by omega))
        rw [show o + (y - o) = y by omega] at this
        rw [this]; rfl
      · rw [setCells_out (.inr g')]; exact h.1
  · show ¬ (w.setCells b o vs).frozen? _ = true
    rw [World.frozen?_setCells]; exact h.2

/-- What is known of the thing that is appended. -/
structure ASrc (P : Program) (t tx ty e : TypeId) (i : TypeInfo) (z : Value) (size : Nat) (x : Value) (n : Nat) (news : List Value) (w : World) : Prop where
  newsLen : news.length = n * size
  nothing : n = 0 → news = [] → ∀ (base : Option Addr) (sLen sCap : Nat), sLen ≤ sCap → (Builtin.append_ #[t, tx] ty #[.slice base sLen sCap, x]).run P w = .ok (.slice base sLen sCap) w
  room : ∀ (b off sLen sCap : Nat), sLen + n ≤ sCap → (∀ j, j < news.length → (w.cell? ⟨b, off + sLen * size + j, none⟩).isSome = true) → (∀ j, j < news.length → w.frozen? ⟨b, off + sLen * size + j, none⟩ = false) →
    (Builtin.append_ #[t, tx] ty #[.slice (some ⟨b, off, none⟩) sLen sCap, x]).run P w = .ok (.slice (some ⟨b, off, none⟩) (sLen + n) sCap) (w.setCells b (off + sLen * size) news)
  grow : ∀ (base : Option Addr) (sLen sCap : Nat) (olds : List Value), (Builtin.firstCells size sLen (.slice base sLen sCap)).run P w.drew = .ok olds.toArray w.drew → sCap < sLen + n → ((sLen + n : Nat) : Int) ≤ 9223372036854775807 →
    Builtin.nextslicecap (sLen + n) sCap * i.bytes ≤ 281474976710656 → (Builtin.append_ #[t, tx] ty #[.slice base sLen sCap, x]).run P w =
      .ok (.slice (some ⟨w.heap.size, 0, none⟩) (sLen + n) (grownCap w (sLen + n) sCap e))
        (w.drew.alloc (.cells ((olds ++ news).toArray ++ Builtin.zeroCells z.cells (grownCap w (sLen + n) sCap e - (sLen + n))) e))

theorem append_core {c : Ctx} {F : Cells} {pl : Places} {st : St} {a : Act} {w : World} (h : Inv c F pl st a w) {nk : Key} (hk0 : nk.1 ≠ 0) {t tx ty e : TypeId} {ei : TI} {i : TypeInfo} {d : TypeDesc}
    (he : TOk P e ei i d) {s x : V} {cs cx : Value} (hs : RepV F (memOf w) pl s cs) {xs : List V} {news : List Value} (hsrc : ASrc P t tx ty e i ei.zeroVal ei.size cx xs.length news w)
    (hlen : ∀ (j : Nat) y, xs[j]? = some y → y.cells.length = ei.size)
    (hnews : ∀ (j : Nat) e (c : Nat) y, xs[j]? = some e → e.cells[c]? = some y → scal y = true ∧ ∃ cv, news[j * ei.size + c]? = some cv ∧ RepV F (memOf w) noPl y cv) {v : V} {ups : List (Key × Obj)}
    (hap : appendV ei nk st.ob xs s x = some (v, ups)) :
    ∃ F' pl' w' cv, (Builtin.append_ #[t, tx] ty #[cs, cx]).run P w = .ok cv w' ∧ Inv c F' pl' { st with ob := st.ob.sets ups } a w' ∧ RepV F' (memOf w') pl' v cv := by
  unfold appendV at hap
  split at hap
  · cases hap
  rename_i hn0
  have hn : 0 < ei.size := by omega
  have hsz : i.size = ei.size := he.size
  have hzc : (ei.zeroVal).cells.size = ei.size := by
    unfold TI.zeroVal
    split
    · have := he.zl; simp [Value.cells, this]
    · rename_i ha
      rw [he.zs ha]
      split
      · rename_i z _; cases z <;> rfl
      · rfl
  -- out of nothing
  have fresh : ∀ (base : Option Addr), (Builtin.firstCells ei.size 0 (.slice base 0 0)).run P w.drew = .ok #[] w.drew → xs ≠ [] → roomOk xs.length ei.bytes → st.ob nk = none →
      ∃ F' pl' w' cv, (Builtin.append_ #[t, tx] ty #[.slice base 0 0, cx]).run P w = .ok cv w' ∧ Inv c F' pl' { st with ob := st.ob.sets [(nk, .arr true ei.size xs)] } a w' ∧ RepV F' (memOf w') pl' (.ls nk ei.size 0 xs.length) cv := by
    intro base hfc hne hroom hnk
    have hpos : 0 < xs.length := List.length_pos_iff.2 hne
    have hrun := hsrc.grow base 0 0 [] hfc (by omega) (by have := hroom.2; omega)
      (growslice_fits (by omega) (by rw [he.bytes]; have := hroom.1; simpa using this))
    have hge := grownCap_ge w (0 + xs.length) 0 e
    have hmk := h.grown hk0 hnk hn (es := xs) (C := grownCap w (0 + xs.length) 0 e) (by omega) (L := news) hsrc.newsLen (z := ei.zeroVal.cells) hzc e hlen hnews
    simp only [List.nil_append, Nat.zero_add] at hrun hmk
    refine ⟨F, _, _, _, hrun, hmk, ?_⟩
    refine .ls (Places.set_self _ _ _) rfl (by simpa using hge) (by simp) (fun _ => by simp)
  split at hap
  · -- nil
    cases hs.lit_inv
    split at hap
    · rename_i hnil
      subst hnil
      simp only [Option.some.injEq, Prod.mk.injEq] at hap
      obtain ⟨rfl, rfl⟩ := hap
      have hnn : news = [] := List.eq_nil_of_length_eq_zero (by rw [hsrc.newsLen]; simp)
      subst hnn
      exact ⟨F, pl, w, _, hsrc.nothing rfl rfl none 0 0 (Nat.le_refl _), h, .lit⟩
    · rename_i hne
      split at hap <;> try contradiction
      rename_i hr
      simp only [Option.some.injEq, Prod.mk.injEq] at hap
      obtain ⟨rfl, rfl⟩ := hap
      exact fresh none (run_firstCells_none w.drew _ _ _ _) hne hr.1 hr.2
  · obtain ⟨ad, rfl⟩ := hs.e0_inv
    split at hap
    · rename_i hnil
      subst hnil
      simp only [Option.some.injEq, Prod.mk.injEq] at hap
      obtain ⟨rfl, rfl⟩ := hap
      have hnn : news = [] := List.eq_nil_of_length_eq_zero (by rw [hsrc.newsLen]; simp)
      subst hnn
      exact ⟨F, pl, w, _, hsrc.nothing rfl rfl ad 0 0 (Nat.le_refl _), h, by cases ad; exact .e0n; exact .e0⟩
    · rename_i hne
      split at hap <;> try contradiction
      rename_i hr
      simp only [Option.some.injEq, Prod.mk.injEq] at hap
      obtain ⟨rfl, rfl⟩ := hap
      cases ad with
      | none => exact fresh none (run_firstCells_none w.drew _ _ _ _) hne hr.1 hr.2
      | some ad => exact fresh (some ad) (run_firstCells_some w.drew _ 0 ad 0 0 [] (by simp) (fun j u hu => by simp at hu)) hne hr.1 hr.2
  · rename_i k n i0 len
    split at hap <;> try contradiction
    rename_i n' es hob
    split at hap <;> try contradiction
    rename_i hc
    obtain ⟨rfl, rfl, hle, hroom, hnk, hkm⟩ := hc
    simp only [Option.some.injEq, Prod.mk.injEq] at hap
    obtain ⟨rfl, rfl⟩ := hap
    obtain ⟨p, ad, cap, hp, hpn, hlc, hic, had, rfl⟩ := hs.ls_inv
    obtain ⟨q, hq, r1, r2, r3, r4, r5⟩ := live_row h.wr hob
    cases hp.symm.trans hq
    have hcut := RowAt.cut r4 i0 len
    obtain ⟨olds, o1, o2, o3, o4⟩ := hcut.list hn
    have hcl : ((es.drop i0).take len).length = len := by simp; omega
    have hlenA : ∀ (j : Nat) y, ((es.drop i0).take len ++ xs)[j]? = some y → y.cells.length = ei.size := by
      intro j y hy
      rw [List.getElem?_append] at hy
      split at hy
      · exact (hcut j y hy).1
      · exact hlen _ y hy
    have hcells := RowCells.app (F := F) (m := memOf w) o1 o4 hnews
    by_cases hrm : len + xs.length ≤ cap
    · -- in its place
      let p' : Pl := ⟨p.b, p.base + i0 * ei.size, ei.size, cap⟩
      have hsub : ∀ b o, p'.has b o → p.has b o := by
        rintro b o ⟨h1, h2, h3⟩
        refine ⟨h1, by simp only [p'] at h2; omega, ?_⟩
        simp only [p'] at h3
        have := Nat.mul_le_mul_right ei.size hic
        rw [Nat.add_mul] at this
        rw [hpn]; omega
      by_cases hcap : cap = 0
      · -- no room and nothing to add
        subst hcap
        have hx0 : xs = [] := List.eq_nil_of_length_eq_zero (by omega)
        have hl0 : len = 0 := by omega
        subst hx0 hl0
        have hnn : news = [] := List.eq_nil_of_length_eq_zero (by rw [hsrc.newsLen]; simp)
        subst hnn
        have hmv := h.moveTo hob hp hk0 hnk (p' := p') (w' := w) (Same.refl _ _) (fun o ho => ⟨(r5 o ho).1, (r5 o ho).2.1⟩) hsub rfl rfl (es' := (es.drop i0).take 0 ++ []) (by simp) (fun j x hx => by simp at hx)
        exact ⟨F, _, w, _, hsrc.nothing rfl rfl (some ad) 0 0 (Nat.le_refl _), hmv,
          .ls (Places.set_self _ _ _) rfl (by simp) (by simp) (fun h => absurd rfl h)⟩
      · have had' := had hcap
        subst had'
        have hin : ∀ j, j < news.length → p.has p.b (p.base + i0 * ei.size + len * ei.size + j) := by
          intro j hj
          rw [hsrc.newsLen] at hj
          refine ⟨rfl, by omega, ?_⟩
          have h1 := Nat.mul_le_mul_right ei.size hic
          have h2 := Nat.mul_le_mul_right ei.size hrm
          rw [Nat.add_mul] at h1 h2
          rw [hpn]; omega
        have hrun := hsrc.room p.b (p.base + i0 * ei.size) len cap hrm
          (fun j hj => (r5 _ (hin j hj)).1) (fun j hj => by
            have := (r5 _ (hin j hj)).2.1
            simpa [frozOf] using this)
        let w' := w.setCells p.b (p.base + i0 * ei.size + len * ei.size) news
        have hsame : Same p.has w w' := same_setCells hin
        have hsome : ∀ j, j < news.length → (memOf w p.b (p.base + i0 * ei.size + len * ei.size + j)).isSome := fun j hj => (r5 _ (hin j hj)).1
        have hnewc : ∀ q v, (olds ++ news)[q]? = some v → memOf w' p.b (p.base + i0 * ei.size + q) = some v := by
          intro q v hv
          by_cases hq : q < olds.length
          · rw [List.getElem?_append_left hq] at hv
            rw [setCells_out (.inl (by rw [o1, hcl] at hq; omega))]
            exact o2 q v hv
          · rw [List.getElem?_append_right (by omega)] at hv
            have := setCells_in hsome hv
            rw [o1, hcl] at this hq
            rw [show p.base + i0 * ei.size + len * ei.size + (q - len * ei.size) = p.base + i0 * ei.size + q by omega] at this
            exact this
        have hex : ∀ o, p.has p.b o → (memOf w' p.b o).isSome ∧ ¬ frozOf w' p.b o := fun o ho => setCells_exists hsome ⟨(r5 o ho).1, (r5 o ho).2.1⟩
        have hmv := h.moveTo hob hp hk0 hnk (p' := p') (w' := w') hsame hex hsub rfl rfl (es' := (es.drop i0).take len ++ xs) (by simp only [List.length_append, hcl]; exact hrm)
          (fun j x hx => ⟨hlenA j x hx, fun c y hy => by
            obtain ⟨g1, cv, g2, g3⟩ := hcells j x c y hx hy
            exact ⟨g1, cv, by have := hnewc _ cv g2; rw [← Nat.add_assoc] at this; exact this, g3⟩⟩)
        refine ⟨F, _, w', _, hrun, hmv, .ls (Places.set_self _ _ _) rfl hrm (by simp [p']) (fun _ => by simp [p'])⟩
    · -- into new memory
      have hold : (Builtin.firstCells ei.size len (.slice (some ad) len cap)).run P w.drew = .ok olds.toArray w.drew := by
        refine run_firstCells_some w.drew _ len ad len cap olds (by rw [o1, hcl]) (fun j u hu => ?_)
        have hcap : cap ≠ 0 := by
          rintro rfl
          have : olds = [] := List.eq_nil_of_length_eq_zero (by rw [o1, hcl, show len = 0 by omega]; simp)
          subst this; simp at hu
        rw [had hcap, add_none]
        exact o2 j u hu
      have hrun := hsrc.grow (some ad) len cap olds hold (by omega) (by have := hroom.2; omega)
        (growslice_fits (by omega) (by rw [he.bytes]; exact hroom.1))
      have hge := grownCap_ge w (len + xs.length) cap e
      have hkk : nk ≠ k := by rintro rfl; rw [hob] at hnk; cases hnk
      have hmk := (h.drop hob).grown (k := nk) hk0 (by show st.ob.set k .dead nk = none; rw [Store.set_ne _ _ hkk]; exact hnk) hn (es := (es.drop i0).take len ++ xs) (C := grownCap w (len + xs.length) cap e)
        (by simp only [List.length_append, hcl]; exact hge) (L := olds ++ news) (by simp only [List.length_append, o1, hsrc.newsLen, Nat.add_mul]) (z := ei.zeroVal.cells) hzc e hlenA hcells
      simp only [List.length_append, hcl] at hmk
      exact ⟨F, _, _, _, hrun, hmk, .ls (Places.set_self _ _ _) rfl hge (by simp) (fun _ => by simp)⟩
  · cases hap

theorem append_sound {c : Ctx} {F : Cells} {pl : Places} {st : St} {a : Act} {w : World} (h : Inv c F pl st a w) {nk : Key} (hk0 : nk.1 ≠ 0) {t tx ty e : TypeId} {ei : TI} {i : TypeInfo} {d : TypeDesc}
    (ht : P.underlying t = some (.slice e)) (he : TOk P e ei i d) {stb : Bool} (hk : (stb = false ∧ ∃ e', P.underlying tx = some (.slice e')) ∨ (stb = true ∧ P.underlying tx = some .string))
    {s x : V} {cs cx : Value} (hs : RepV F (memOf w) pl s cs) (hx : RepV F (memOf w) pl x cx) {xs : List V} (hxs : srcV st.ob ei.size stb x = some xs) {v : V} {ups : List (Key × Obj)}
    (hap : appendV ei nk st.ob xs s x = some (v, ups)) :
    ∃ F' pl' w' cv, (Builtin.append_ #[t, tx] ty #[cs, cx]).run P w = .ok cv w' ∧ Inv c F' pl' { st with ob := st.ob.sets ups } a w' ∧ RepV F' (memOf w') pl' v cv := by
  have hn : 0 < ei.size ∨ ei.size = 0 := by omega
  rcases hn with hn | hn
  · obtain ⟨news, hsrc, hlen, hnews, _⟩ := src_sound h.wr hn hk hx hxs
    have hsz : i.size = ei.size := he.size
    rw [← hsz] at hsrc
    refine append_core h hk0 he hs ⟨by rw [hsrc.newsLen, hsz], fun h0 h1 base sLen sCap hle => ?_, fun b off sLen sCap h1 h2 h3 => ?_, fun base sLen sCap olds h1 h2 h3 h4 => ?_⟩ hlen hnews hap
    · rw [h0] at hsrc
      subst h1
      exact run_append_nothing (P := P) w t tx ty e i ht he.info base sLen sCap hle cx hsrc
    · have := run_append_room_src (P := P) w t tx ty e i ht he.info b off sLen sCap cx xs.length news hsrc h1 (by rw [hsz]; exact h2) (by rw [hsz]; exact h3)
      rw [hsz] at this
      exact this
    · exact run_append_grow_src (P := P) w t tx ty e i ei.zeroVal ht he.info he.zero base sLen sCap olds (by rw [hsz]; exact h1) cx xs.length news hsrc h2 h3 h4
  · unfold appendV at hap
    rw [if_pos hn] at hap
    cases hap
end
end Go.Eng
