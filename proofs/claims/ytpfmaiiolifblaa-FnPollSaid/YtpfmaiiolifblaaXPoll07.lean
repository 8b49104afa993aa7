/- A machine of values for the program's code, part 8: operations that make, read and change objects. -/
import Derived.Test.YtpfmaiiolifblaaXPoll06
namespace Go.Eng
open Go.RowKit

/-- A row of elements in memory. -/
def RowAt (F : Cells) (m : Mem) (pl : Places) (b o n : Nat) (es : List V) : Prop := ∀ (j : Nat) e, es[j]? = some e → RepE F m pl b (o + j * n) n e

theorem RowAt.cut {F : Cells} {m : Mem} {pl : Places} {b o n : Nat} {es : List V} (h : RowAt F m pl b o n es) (i len : Nat) : RowAt F m pl b (o + i * n) n ((es.drop i).take len) := by
  intro j e he
  simp only [List.getElem?_take, List.getElem?_drop] at he
  split at he
  · have := h (i + j) e he
    rw [Nat.add_mul] at this
    rw [Nat.add_assoc]; exact this
  · cases he

theorem divMod {n : Nat} (hn : 0 < n) {q len : Nat} (h : q < len * n) : ∃ j c, j < len ∧ c < n ∧ q = j * n + c :=
  ⟨q / n, q % n, Nat.div_lt_of_lt_mul (by rw [Nat.mul_comm]; exact h), Nat.mod_lt _ hn, by rw [Nat.mul_comm]; exact (Nat.div_add_mod q n).symm⟩

/-- The cells of a row, as a list. -/
theorem RowAt.list {F : Cells} {m : Mem} {pl : Places} {b o n : Nat} {es : List V} (h : RowAt F m pl b o n es) (hn : 0 < n) :
    ∃ cs : List Value, cs.length = es.length * n ∧ (∀ (q : Nat) v, cs[q]? = some v → m b (o + q) = some v) ∧ (∀ v ∈ cs, v.oneCell' = true) ∧
      ∀ (j : Nat) e (c : Nat) x, es[j]? = some e → e.cells[c]? = some x → scal x = true ∧ ∃ cv, cs[j * n + c]? = some cv ∧ RepV F m pl x cv := by
  let f : Nat → Value := fun q => (m b (o + q)).getD undef
  have hf : ∀ (j : Nat) e (c : Nat) x, es[j]? = some e → e.cells[c]? = some x → scal x = true ∧ m b (o + (j * n + c)) = some (f (j * n + c)) ∧ RepV F m pl x (f (j * n + c)) := by
    intro j e c x he hx
    obtain ⟨g1, cv, g2, g3⟩ := (h j e he).2 c x hx
    rw [Nat.add_assoc] at g2
    have : f (j * n + c) = cv := by simp only [f, g2, Option.getD_some]
    exact ⟨g1, by rw [this]; exact g2, by rw [this]; exact g3⟩
  have hq : ∀ q, q < es.length * n → ∃ j e c x, es[j]? = some e ∧ e.cells[c]? = some x ∧ q = j * n + c := by
    intro q hq
    obtain ⟨j, c, hj, hc, e⟩ := divMod hn hq
    have he := List.getElem?_eq_getElem hj
    have hl := (h j _ he).1
    exact ⟨j, _, c, _, he, List.getElem?_eq_getElem (by rw [hl]; exact hc), e⟩
  refine ⟨(List.range (es.length * n)).map f, by simp, fun q v hv => ?_, fun v hv => ?_, fun j e c x he hx => ?_⟩
  · simp only [List.getElem?_map, Option.map_eq_some_iff] at hv
    obtain ⟨q', hq', rfl⟩ := hv
    obtain ⟨g1, g2⟩ := List.getElem?_eq_some_iff.1 hq'
    simp at g1 g2; subst g2
    obtain ⟨j, e, c, x, he, hx, rfl⟩ := hq q g1
    exact (hf j e c x he hx).2.1
  · simp only [List.mem_map, List.mem_range] at hv
    obtain ⟨q, hq', rfl⟩ := hv
    obtain ⟨j, e, c, x, he, hx, rfl⟩ := hq q hq'
    obtain ⟨g1, _, g3⟩ := hf j e c x he hx
    exact (rep_one g3 g1).1
  · obtain ⟨g1, _, g3⟩ := hf j e c x he hx
    refine ⟨g1, _, ?_, g3⟩
    have h1 := (List.getElem?_eq_some_iff.1 he).1
    have h2 := (List.getElem?_eq_some_iff.1 hx).1
    rw [(h j e he).1] at h2
    have : j * n + c < es.length * n := by
      have := Nat.mul_le_mul_right n (show j + 1 ≤ es.length by omega)
      rw [Nat.add_mul] at this; omega
    simp [this]

/-- Where an object lies, and that it lies there as a row. -/
theorem live_row {F : Cells} {pl : Places} {ob : Store} {w : World} (h : WR F pl ob w) {k : Key} {kf : Bool} {n : Nat} {es : List V} (hk : ob k = some (.arr kf n es)) :
    ∃ p, pl k = some p ∧ p.n = n ∧ 0 < n ∧ es.length ≤ p.C ∧ RowAt F (memOf w) (Obj.plc kf pl) p.b p.base n es ∧ ∀ o, p.has p.b o → (memOf w p.b o).isSome ∧ ¬ frozOf w p.b o ∧ ¬ F p.b o := by
  obtain ⟨p, hp, h1, h2, h3, h4, h5⟩ := h.rep k _ hk
  exact ⟨p, hp, h1, h2, h3, h5, h4⟩

theorem froz_row {F : Cells} {pl : Places} {ob : Store} {w : World} (h : WR F pl ob w) {k : Key} {n : Nat} {es : List V} (hk : ob k = some (.froz n es)) :
    ∃ p, pl k = some p ∧ p.n = n ∧ 0 < n ∧ es.length ≤ p.C ∧ RowAt F (memOf w) noPl p.b p.base n es := by
  obtain ⟨p, hp, h1, h2, h3, h4⟩ := h.rep k _ hk
  exact ⟨p, hp, h1, h2, h3, fun j e he => (h4 j e he).1⟩

/-- What a row that is appended or copied holds: its elements. `st`: a string may stand there, too. -/
def srcV (get : Store) (n : Nat) (st : Bool) (x : V) : Option (List V) :=
  match st, x with
  | false, .lit (.slice none 0 0) => some []
  | false, .lit (.slice (some _) 0 _) => some []
  | false, .e0 => some []
  | false, .is n' es => if n' = n then some es else none
  | false, .ls k n' i len => match get k with
    | some (.arr true n'' es) => if n' = n ∧ n'' = n ∧ i + len ≤ es.length then some ((es.drop i).take len) else none
    | some (.froz n'' es) => if n' = n ∧ n'' = n ∧ i + len ≤ es.length then some ((es.drop i).take len) else none
    | _ => none
  | true, .lit (.string s) => if n = 1 then some (s.data.toList.map fun b => .lit (.int .u8 b.toNat)) else none
  | _, _ => none

theorem RowAt.noPl {F : Cells} {m : Mem} {pl : Places} {b o n : Nat} {es : List V} (h : RowAt F m noPl b o n es) : RowAt F m pl b o n es :=
  fun j e he => ⟨(h j e he).1, fun c x hx => let ⟨g1, cv, g2, g3⟩ := (h j e he).2 c x hx; ⟨g1, cv, g2, g3.ofNo⟩⟩

section
variable {P : Program} {tt : TT}

theorem src_sound {F : Cells} {pl : Places} {ob : Store} {w : World} (h : WR F pl ob w) {n : Nat} (hn : 0 < n) {tx : TypeId} {stb : Bool}
    (hk : (stb = false ∧ ∃ e', P.underlying tx = some (.slice e')) ∨ (stb = true ∧ P.underlying tx = some .string)) {x : V} {cx : Value} (hx : RepV F (memOf w) pl x cx) {es : List V} (hs : srcV ob n stb x = some es) :
    ∃ news : List Value, Src P n tx cx es.length news w ∧ (∀ (j : Nat) e, es[j]? = some e → e.cells.length = n) ∧
      (∀ (j : Nat) e (c : Nat) y, es[j]? = some e → e.cells[c]? = some y → scal y = true ∧ ∃ cv, news[j * n + c]? = some cv ∧ RepV F (memOf w) noPl y cv) ∧
      (stb = false → ∀ q, q ≤ es.length → (Builtin.firstCells n q cx).run P w = .ok (news.take (q * n)).toArray w) := by
  have row : ∀ {b o : Nat} {es : List V} {a : Addr} {cap : Nat}, RowAt F (memOf w) Eng.noPl b o n es → (es ≠ [] → a = ⟨b, o, none⟩) → stb = false → ∃ news : List Value, Src P n tx (.slice (some a) es.length cap) es.length news w ∧
      (∀ (j : Nat) e, es[j]? = some e → e.cells.length = n) ∧
      (∀ (j : Nat) e (c : Nat) y, es[j]? = some e → e.cells[c]? = some y → scal y = true ∧ ∃ cv, news[j * n + c]? = some cv ∧ RepV F (memOf w) Eng.noPl y cv) ∧
      (stb = false → ∀ q, q ≤ es.length → (Builtin.firstCells n q (.slice (some a) es.length cap)).run P w = .ok (news.take (q * n)).toArray w) := by
    intro b o es a cap hr ha hst
    obtain ⟨cs, g1, g2, g3, g4⟩ := hr.list hn
    rcases hk with ⟨_, e', hk⟩ | ⟨h1, _⟩
    · have hcell : ∀ j u, cs[j]? = some u → w.cell? (a.add j) = some u := by
        intro j u hu
        have hne : es ≠ [] := by
          rintro rfl
          rw [List.length_nil, Nat.zero_mul] at g1
          rw [List.eq_nil_of_length_eq_zero g1] at hu; simp at hu
        rw [ha hne, add_none]
        exact g2 j u hu
      refine ⟨cs, Src.ofSlice w hk a es.length cap cs g1 hcell g3, fun j e he => (hr j e he).1, g4, fun _ q hq => ?_⟩
      refine run_firstCells_some w n q a es.length cap _ ?_ (fun j u hu => hcell j u ?_)
      · rw [List.length_take, g1]
        exact Nat.min_eq_left (Nat.mul_le_mul_right _ hq)
      · rw [List.getElem?_take] at hu
        split at hu
        · exact hu
        · cases hu
    · rw [hst] at h1; cases h1
  unfold srcV at hs
  split at hs
  · -- nil
    cases hx.lit_inv; cases hs
    rcases hk with ⟨_, e', hk⟩ | ⟨h1, _⟩
    · exact ⟨[], Src.ofNil w hk 0, fun j e he => by simp at he, fun j e c y he => by simp at he, fun _ q hq => by simpa using run_firstCells_none w n q 0 0⟩
    · cases h1
  · cases hx.lit_inv; cases hs
    rename_i hst
    exact row (b := 0) (o := 0) (es := []) (fun j e he => by simp at he) (fun h => absurd rfl h) rfl
  · obtain ⟨a, rfl⟩ := hx.e0_inv
    cases hs
    cases a with
    | none =>
      rcases hk with ⟨_, e', hk⟩ | ⟨h1, _⟩
      · exact ⟨[], Src.ofNil w hk 0, fun j e he => by simp at he, fun j e c y he => by simp at he, fun _ q hq => by simpa using run_firstCells_none w n q 0 0⟩
      · cases h1
    | some a => exact row (b := 0) (o := 0) (es := []) (fun j e he => by simp at he) (fun h => absurd rfl h) rfl
  · rename_i n' es'
    split at hs <;> try contradiction
    rename_i hn'
    subst hn'
    cases hs
    obtain ⟨rfl, rfl⟩ | ⟨a, cap, cf, hcap, hsp, h1, h2, h3, rfl⟩ := hx.is_inv
    · rcases hk with ⟨_, e', hk⟩ | ⟨h1, _⟩
      · exact ⟨[], Src.ofNil w hk 0, fun j e he => by simp at he, fun j e c y he => by simp at he, fun _ q hq => by simpa using run_firstCells_none w _ q 0 0⟩
      · cases h1
    refine row (b := a.block) (o := a.off) (fun j e he => ⟨h1 j e he, fun c x hx => ⟨(h2 j e c x he hx).1, cf j c, (h2 j e c x he hx).2.2, h3 j e c x he hx⟩⟩) (fun hne => ?_) rfl
    have := hsp hne
    obtain ⟨ab, ao, asp⟩ := a
    simp at this; subst this; rfl
  · rename_i k n' i len
    obtain ⟨p, a, cap, hp, hpn, hlc, hic, ha, rfl⟩ := hx.ls_inv
    have go : ∀ {es'' : List V}, RowAt F (memOf w) Eng.noPl p.b p.base n es'' → n' = n → i + len ≤ es''.length → some ((es''.drop i).take len) = some es → ∃ news : List Value, Src P n tx (.slice (some a) len cap) es.length news w ∧
        (∀ (j : Nat) e, es[j]? = some e → e.cells.length = n) ∧
        (∀ (j : Nat) e (c : Nat) y, es[j]? = some e → e.cells[c]? = some y → scal y = true ∧ ∃ cv, news[j * n + c]? = some cv ∧ RepV F (memOf w) Eng.noPl y cv) ∧
        (false = false → ∀ q, q ≤ es.length → (Builtin.firstCells n q (.slice (some a) len cap)).run P w = .ok (news.take (q * n)).toArray w) := by
      intro es'' hr hn' hb he
      cases he
      have hlen : ((es''.drop i).take len).length = len := by simp; omega
      have := row (a := a) (cap := cap) (hr.cut i len) (fun hne => by
        rw [ha (by
          rintro rfl
          apply hne
          apply List.eq_nil_of_length_eq_zero; omega), hn']) rfl
      rw [hlen] at this ⊢
      exact this
    split at hs
    · rename_i n'' es'' hk'
      split at hs <;> try contradiction
      rename_i hb
      obtain ⟨b1, b2, b3⟩ := hb
      obtain ⟨q, hq, _, _, _, hr, _⟩ := live_row h hk'
      cases hp.symm.trans hq
      rw [b2] at hr
      exact go hr b1 b3 hs
    · rename_i n'' es'' hk'
      split at hs <;> try contradiction
      rename_i hb
      obtain ⟨b1, b2, b3⟩ := hb
      obtain ⟨q, hq, _, _, _, hr⟩ := froz_row h hk'
      cases hp.symm.trans hq
      rw [b2] at hr
      exact go hr b1 b3 hs
    · cases hs
  · rename_i s
    split at hs <;> try contradiction
    rename_i h1
    subst h1
    cases hs
    cases hx.lit_inv
    rcases hk with ⟨h1, _⟩ | ⟨_, hk⟩
    · cases h1
    · have hsrc := Src.ofString (P := P) w hk s
      refine ⟨byteCells s, by simpa using hsrc, fun j e he => ?_, fun j e c y he hy => ?_, fun h => by cases h⟩
      · simp only [List.getElem?_map, Option.map_eq_some_iff] at he
        obtain ⟨u, _, rfl⟩ := he; rfl
      · simp only [List.getElem?_map, Option.map_eq_some_iff] at he
        obtain ⟨u, hu, rfl⟩ := he
        have : c = 0 := by
          have := (List.getElem?_eq_some_iff.1 hy).1
          simp [V.cells] at this; exact this
        subst this
        simp only [V.cells, List.getElem?_cons_zero, Option.some.injEq] at hy; subst hy
        refine ⟨rfl, .int .u8 u.toNat, ?_, .lit⟩
        simp [byteCells, hu]
  · cases hs
end
end Go.Eng
