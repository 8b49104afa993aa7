/- A machine of values for the program's code, part 6: how a state and what it says of the memory go on when the memory changes. -/
import Derived.Laws.IdiomCopy
import Derived.Test.YtpfmaiiolifblaaXPoll04
namespace Go.Eng
open Go.RowKit

theorem memOf_lt {w : World} {b o : Nat} (h : (memOf w b o).isSome) : b < w.heap.size := by
  unfold memOf World.cell? at h
  rcases Nat.lt_or_ge b w.heap.size with h' | h'
  · exact h'
  · simp [h'] at h

theorem pl_has {p : Pl} {n j c : Nat} (hn : p.n = n) {len : Nat} (hl : len ≤ p.C) (hj : j < len) (hc : c < n) : p.has p.b (p.base + j * n + c) := by
  refine ⟨rfl, by omega, ?_⟩
  subst hn
  have : (j + 1) * p.n ≤ p.C * p.n := Nat.mul_le_mul_right _ (by omega)
  rw [Nat.add_mul] at this
  omega

theorem RepE.turn {F F' : Cells} {m m' : Mem} {pl pl' : Places} {b o n : Nat} {e : V} (h : RepE F m pl b o n e) (hF : ∀ b o, F b o → F' b o ∧ m' b o = m b o)
    (hpl : ∀ k p, pl k = some p → pl' k = some p) (hc : ∀ c, c < n → m' b (o + c) = m b (o + c)) : RepE F' m' pl' b o n e := by
  refine ⟨h.1, fun c x hx => ?_⟩
  obtain ⟨h1, cv, h2, h3⟩ := h.2 c x hx
  refine ⟨h1, cv, ?_, h3.mono hF hpl⟩
  rw [hc c (by rw [← h.1]; exact (List.getElem?_eq_some_iff.1 hx).1)]
  exact h2

theorem plc_mono {kf : Bool} {pl pl' : Places} (hpl : ∀ k p, pl k = some p → pl' k = some p) : ∀ k p, Obj.plc kf pl k = some p → Obj.plc kf pl' k = some p := by
  intro k p h
  unfold Obj.plc at *
  split at h
  · exact absurd h (by simp [noPl])
  · rename_i hk; simp only [hk]; exact hpl k p h

theorem RepO.turn {F F' : Cells} {m m' : Mem} {fz fz' : Cells} {pl pl' : Places} {p : Pl} {x : Obj} (h : RepO F m fz pl p x) (hF : ∀ b o, F b o → F' b o ∧ m' b o = m b o)
    (hpl : ∀ k p, pl k = some p → pl' k = some p) (hl : x.live = true → ∀ o, p.has p.b o → m' p.b o = m p.b o ∧ (fz' p.b o → fz p.b o) ∧ ¬ F' p.b o) : RepO F' m' fz' pl' p x := by
  cases x with
  | dead => trivial
  | arr kf n es =>
    obtain ⟨h1, h2, h3, h4, h5⟩ := h
    have hl := hl rfl
    refine ⟨h1, h2, h3, fun o ho => ?_, fun j e he => ?_⟩
    · obtain ⟨k1, k2, k3⟩ := hl o ho
      obtain ⟨g1, g2, g3⟩ := h4 o ho
      exact ⟨by rw [k1]; exact g1, fun hf => g2 (k2 hf), k3⟩
    · have hj := (List.getElem?_eq_some_iff.1 he).1
      exact (h5 j e he).turn hF (plc_mono hpl) (fun c hc => (hl _ (pl_has h1 h3 hj hc)).1)
  | froz n es =>
    obtain ⟨h1, h2, h3, h4⟩ := h
    refine ⟨h1, h2, h3, fun j e he => ?_⟩
    obtain ⟨k1, k2⟩ := h4 j e he
    exact ⟨k1.turn hF (fun _ _ h => h) (fun c hc => (hF _ _ (k2 c hc)).2), fun c hc => (hF _ _ (k2 c hc)).1⟩

/-- What every step of the memory gives: the cells that change (Z) are none that somebody trusts not to. -/
theorem WR.turn {F F' : Cells} {pl pl' : Places} {ob ob' : Store} {w w' : World} {Z : Cells} (h : WR F pl ob w) (hs : Same Z w w') (hZF : ∀ b o, F b o → ¬ Z b o)
    (hF : ∀ b o, F b o → F' b o) (hFe : ∀ b o, F' b o → F b o ∨ (memOf w' b o).isSome) (hpl : ∀ k p, pl k = some p → pl' k = some p)
    (hob : ∀ l x, ob' l = some x → (ob l = some x ∧ (x.live = true → ∀ p o, pl l = some p → p.has p.b o → ¬ Z p.b o ∧ ¬ F' p.b o)) ∨ (∃ p, pl' l = some p ∧ RepO F' (memOf w') (frozOf w') pl' p x))
    (hnon : ∀ k, ob' k = none → pl' k = none)
    (hdis : ∀ k l x y p q b o, k ≠ l → ob' k = some x → ob' l = some y → x.live = true → y.live = true → pl' k = some p → pl' l = some q → p.has b o → q.has b o → False) : WR F' pl' ob' w' := by
  have hFm : ∀ b o, F b o → F' b o ∧ memOf w' b o = memOf w b o := fun b o hf => ⟨hF b o hf, hs.cell b o (memOf_lt (h.fex b o hf)) (hZF b o hf)⟩
  refine ⟨fun k x hk => ?_, hnon, hdis, fun b o hf => ?_⟩
  · rcases hob k x hk with ⟨h1, h2⟩ | h1
    · obtain ⟨p, hp, hr⟩ := h.rep k x h1
      refine ⟨p, hpl k p hp, hr.turn hFm hpl (fun hl o ho => ?_)⟩
      obtain ⟨g1, g2⟩ := h2 hl p o hp ho
      have hex : (memOf w p.b o).isSome := by
        cases x <;> simp [Obj.live] at hl
        exact (hr.2.2.2.1 o ho).1
      have hlt := memOf_lt hex
      exact ⟨hs.cell _ _ hlt g1, (hs.froz _ _ hlt g1).1, g2⟩
    · exact h1
  · rcases hFe b o hf with h1 | h1
    · rw [(hFm b o h1).2]; exact h.fex b o h1
    · exact h1

theorem Inv.turn {c : Ctx} {F F' : Cells} {pl pl' : Places} {st : St} {a : Act} {w w' : World} {ob' : Store} {Z : Cells} (h : Inv c F pl st a w) (hs : Same Z w w')
    (hZF : ∀ b o, F b o → ¬ Z b o) (hZm : ∀ b o, Z b o → b < w.heap.size → c.mine b o) (hF : ∀ b o, F b o → F' b o) (hFm : ∀ b o, F' b o → F b o ∨ c.mine b o)
    (hpl : ∀ k p, pl k = some p → pl' k = some p) (hwr : WR F' pl' ob' w')
    (hown : ∀ k x p b o, ob' k = some x → x.live = true → pl' k = some p → p.has b o → c.mine b o) (harg : ∀ (k : Key) p, k.1 = 0 → pl' k = some p → pl k = some p) : Inv c F' pl' { st with ob := ob' } a w' := by
  have hFm' : ∀ b o, F b o → F' b o ∧ memOf w' b o = memOf w b o := fun b o hf => ⟨hF b o hf, hs.cell b o (memOf_lt (h.wr.fex b o hf)) (hZF b o hf)⟩
  refine ⟨h.defers, fun i v hi => ?_, hwr, fun b o hf => hF b o (h.f0 b o hf), fun b o hf => ?_, hown, ?_, fun k p h0 hp => h.arg k p h0 (harg k p h0 hp)⟩
  · obtain ⟨h1, h2⟩ := h.tm i v hi
    exact ⟨h1, h2.mono hFm' hpl⟩
  · rcases hFm b o hf with h1 | h1
    · exact h.ff b o h1
    · exact .inr h1
  · have hn : ∀ b o, b < c.w0.heap.size → ¬ c.X0 b o → ¬ Z b o := fun b o hb hx hz => by
      rcases hZm b o hz (Nat.lt_of_lt_of_le hb h.same.size) with h1 | h1
      · exact hx h1
      · omega
    exact ⟨hs.os.trans h.same.os, hs.tape.trans h.same.tape, hs.output.trans h.same.output, Nat.le_trans h.same.size hs.size,
      fun b o hb hx => (hs.cell b o (Nat.lt_of_lt_of_le hb h.same.size) (hn b o hb hx)).trans (h.same.cell b o hb hx),
      fun b o hb hx => (hs.froz b o (Nat.lt_of_lt_of_le hb h.same.size) (hn b o hb hx)).trans (h.same.froz b o hb hx),
      fun b hb hx => (hs.blk b (Nat.lt_of_lt_of_le hb h.same.size) fun o => hn b o hb (hx o)).trans (h.same.blk b hb hx)⟩

def noCells : Cells := fun _ _ => False

/-- A new block. -/
theorem same_alloc (w : World) (cs : Array Value) (e : TypeId) : Same noCells w (w.alloc (.cells cs e)) := by
  refine ⟨rfl, rfl, rfl, by simp, fun b o hb _ => ?_, fun b o hb _ => ?_, fun b hb _ => heap_alloc_old w _ _ hb⟩
  · simp only [memOf, World.cell?, heap_alloc_old w _ _ hb]
  · simp only [frozOf, World.frozen?, heap_alloc_old w _ _ hb]

theorem mem_alloc (w : World) (cs : Array Value) (e : TypeId) (o : Nat) : memOf (w.alloc (.cells cs e)) w.heap.size o = cs[o]? := by
  simp only [memOf, World.cell?, heap_alloc_new w]
  rfl

theorem froz_alloc (w : World) (cs : Array Value) (e : TypeId) (o : Nat) : ¬ frozOf (w.alloc (.cells cs e)) w.heap.size o := by
  simp only [frozOf, World.frozen?, heap_alloc_new w]
  simp

theorem same_drew (w : World) : Same noCells w w.drew := ⟨rfl, rfl, rfl, Nat.le_refl _, fun _ _ _ _ => rfl, fun _ _ _ _ => Iff.rfl, fun _ _ _ => rfl⟩

/-- A world in which only new blocks and draws stand before the old one. -/
theorem Inv.grow {c : Ctx} {F : Cells} {pl : Places} {st : St} {a : Act} {w w' : World} (h : Inv c F pl st a w) (hs : Same noCells w w') : Inv c F pl st a w' :=
  h.turn (F' := F) (pl' := pl) (ob' := st.ob) hs (fun _ _ _ h => h) (fun _ _ h => h.elim) (fun _ _ h => h) (fun _ _ h => .inl h) (fun _ _ h => h)
    (h.wr.turn hs (fun _ _ _ h => h) (fun _ _ h => h) (fun _ _ h => .inl h) (fun _ _ h => h) (fun l x hl => .inl ⟨hl, fun hv p o hp ho => ⟨fun h => h, by
      obtain ⟨q, hq, hr⟩ := h.wr.rep l x hl
      cases hp.symm.trans hq
      cases x <;> simp [Obj.live] at hv
      exact (hr.2.2.2.1 o ho).2.2⟩⟩) h.wr.non h.wr.dis) h.own (fun _ _ _ h => h)

def Store.set (ob : Store) (k : Key) (x : Obj) : Store := fun l => if l = k then some x else ob l
def Places.set (pl : Places) (k : Key) (p : Pl) : Places := fun l => if l = k then some p else pl l

theorem Store.set_self (ob : Store) (k : Key) (x : Obj) : ob.set k x k = some x := by simp [Store.set]
theorem Store.set_ne (ob : Store) {k l : Key} (x : Obj) (h : l ≠ k) : ob.set k x l = ob l := by simp [Store.set, h]
theorem Places.set_self (pl : Places) (k : Key) (p : Pl) : pl.set k p k = some p := by simp [Places.set]
theorem Places.set_ne (pl : Places) {k l : Key} (p : Pl) (h : l ≠ k) : pl.set k p l = pl l := by simp [Places.set, h]

theorem live_lt {F : Cells} {pl : Places} {ob : Store} {w : World} (h : WR F pl ob w) {k : Key} {x : Obj} {p : Pl} {b o : Nat} (hk : ob k = some x) (hl : x.live = true) (hp : pl k = some p) (ho : p.has b o) :
    (memOf w b o).isSome ∧ ¬ frozOf w b o ∧ ¬ F b o := by
  obtain ⟨q, hq, hr⟩ := h.rep k x hk
  cases hp.symm.trans hq
  cases x <;> simp [Obj.live] at hl
  have := ho.1; subst this
  exact hr.2.2.2.1 o ho

/-- A new object in new memory. -/
theorem Inv.make {c : Ctx} {F : Cells} {pl : Places} {st : St} {a : Act} {w : World} (h : Inv c F pl st a w) {k : Key} (hk0 : k.1 ≠ 0) (hk : st.ob k = none) (kf : Bool) {n C : Nat} (hn : 0 < n) {es : List V}
    (hle : es.length ≤ C) {cs : Array Value} (hcs : cs.size = C * n) (e : TypeId)
    (hr : ∀ (j : Nat) x, es[j]? = some x → x.cells.length = n ∧ ∀ (c : Nat) y, x.cells[c]? = some y → scal y = true ∧ ∃ cv, cs[j * n + c]? = some cv ∧ RepV F (memOf w) (Obj.plc kf pl) y cv) :
    Inv c F (pl.set k ⟨w.heap.size, 0, n, C⟩) { st with ob := st.ob.set k (.arr kf n es) } a (w.alloc (.cells cs e)) := by
  have hpk : pl k = none := h.wr.non k hk
  have hs := same_alloc w cs e
  have hpl : ∀ l p, pl l = some p → pl.set k ⟨w.heap.size, 0, n, C⟩ l = some p := fun l p hl => by
    rw [Places.set_ne]; exact hl
    rintro rfl; rw [hpk] at hl; cases hl
  have hFm : ∀ b o, F b o → F b o ∧ memOf (w.alloc (.cells cs e)) b o = memOf w b o := fun b o hf => ⟨hf, hs.cell b o (memOf_lt (h.wr.fex b o hf)) id⟩
  refine h.turn (F' := F) hs (fun _ _ _ h => h) (fun _ _ h => h.elim) (fun _ _ h => h) (fun _ _ h => .inl h) hpl ?_ ?_ (fun l q h0 hq => by
    rw [Places.set_ne _ _ (by rintro rfl; exact hk0 h0)] at hq; exact hq)
  · refine h.wr.turn hs (fun _ _ _ h => h) (fun _ _ h => h) (fun _ _ h => .inl h) hpl (fun l x hl => ?_) (fun l hl => ?_) ?_
    · by_cases hlk : l = k
      · subst hlk
        rw [Store.set_self] at hl; cases hl
        refine .inr ⟨_, Places.set_self _ _ _, rfl, hn, hle, fun o ho => ⟨?_, froz_alloc w cs e o, fun hf => ?_⟩, fun j x hx => ?_⟩
        · rw [mem_alloc]
          obtain ⟨_, _, h3⟩ := ho
          simp only [Nat.zero_add] at h3
          simp [hcs, h3]
        · have := memOf_lt (h.wr.fex _ _ hf); exact absurd this (Nat.lt_irrefl _)
        · obtain ⟨h1, h2⟩ := hr j x hx
          refine ⟨h1, fun c y hy => ?_⟩
          obtain ⟨g1, cv, g2, g3⟩ := h2 c y hy
          exact ⟨g1, cv, by rw [mem_alloc]; simpa using g2, g3.mono hFm (plc_mono hpl)⟩
      · rw [Store.set_ne _ _ hlk] at hl
        exact .inl ⟨hl, fun hv p o hp ho => ⟨fun h => h, (live_lt h.wr hl hv hp ho).2.2⟩⟩
    · by_cases hlk : l = k
      · subst hlk; rw [Store.set_self] at hl; cases hl
      · rw [Store.set_ne _ _ hlk] at hl; rw [Places.set_ne _ _ hlk]; exact h.wr.non l hl
    · intro l1 l2 x y p q b o hne h1 h2 hx hy hp hq hpo hqo
      by_cases e1 : l1 = k
      · subst e1
        rw [Places.set_self] at hp; cases hp
        have e2 : l2 ≠ l1 := Ne.symm hne
        rw [Store.set_ne _ _ e2] at h2; rw [Places.set_ne _ _ e2] at hq
        have := memOf_lt (live_lt h.wr h2 hy hq hqo).1
        have := hpo.1; simp at this; omega
      · rw [Store.set_ne _ _ e1] at h1; rw [Places.set_ne _ _ e1] at hp
        by_cases e2 : l2 = k
        · subst e2
          rw [Places.set_self] at hq; cases hq
          have := memOf_lt (live_lt h.wr h1 hx hp hpo).1
          have := hqo.1; simp at this; omega
        · rw [Store.set_ne _ _ e2] at h2; rw [Places.set_ne _ _ e2] at hq
          exact h.wr.dis l1 l2 x y p q b o hne h1 h2 hx hy hp hq hpo hqo
  · intro l x p b o hl hx hp ho
    by_cases e1 : l = k
    · subst e1
      rw [Places.set_self] at hp; cases hp
      have := ho.1; simp at this; subst this
      exact .inr h.same.size
    · rw [Store.set_ne _ _ e1] at hl; rw [Places.set_ne _ _ e1] at hp
      exact h.own l x p b o hl hx hp ho

/-- An object's content is written anew, in its own cells. -/
theorem Inv.rewrite {c : Ctx} {F : Cells} {pl : Places} {st : St} {a : Act} {w w' : World} (h : Inv c F pl st a w) {k : Key} {kf : Bool} {n : Nat} {es es' : List V} {p : Pl}
    (hk : st.ob k = some (.arr kf n es)) (hp : pl k = some p) (hs : Same p.has w w') (hex : ∀ o, p.has p.b o → (memOf w' p.b o).isSome ∧ ¬ frozOf w' p.b o) (hle : es'.length ≤ p.C)
    (hr : ∀ (j : Nat) x, es'[j]? = some x → x.cells.length = n ∧ ∀ (c : Nat) y, x.cells[c]? = some y → scal y = true ∧ ∃ cv, memOf w' p.b (p.base + j * n + c) = some cv ∧ RepV F (memOf w) (Obj.plc kf pl) y cv) :
    Inv c F pl { st with ob := st.ob.set k (.arr kf n es') } a w' := by
  obtain ⟨q, hq, hro⟩ := h.wr.rep k _ hk
  cases hp.symm.trans hq
  obtain ⟨r1, r2, r3, r4, r5⟩ := hro
  have hZF : ∀ b o, F b o → ¬ p.has b o := fun b o hf hh => by have := hh.1; subst this; exact (r4 o hh).2.2 hf
  have hFm : ∀ b o, F b o → F b o ∧ memOf w' b o = memOf w b o := fun b o hf => ⟨hf, hs.cell b o (memOf_lt (h.wr.fex b o hf)) (hZF b o hf)⟩
  refine h.turn (F' := F) hs hZF (fun b o hz _ => h.own k _ p b o hk rfl hp hz) (fun _ _ h => h) (fun _ _ h => .inl h) (fun _ _ h => h) ?_ ?_ (fun _ _ _ h => h)
  · refine h.wr.turn hs hZF (fun _ _ h => h) (fun _ _ h => .inl h) (fun _ _ h => h) (fun l x hl => ?_) (fun l hl => ?_) ?_
    · by_cases hlk : l = k
      · subst hlk
        rw [Store.set_self] at hl; cases hl
        refine .inr ⟨p, hp, r1, r2, hle, fun o ho => ⟨(hex o ho).1, (hex o ho).2, (r4 o ho).2.2⟩, fun j x hx => ?_⟩
        obtain ⟨h1, h2⟩ := hr j x hx
        refine ⟨h1, fun c y hy => ?_⟩
        obtain ⟨g1, cv, g2, g3⟩ := h2 c y hy
        exact ⟨g1, cv, g2, g3.mono hFm (fun _ _ h => h)⟩
      · rw [Store.set_ne _ _ hlk] at hl
        exact .inl ⟨hl, fun hv q o hq ho => ⟨fun hz => h.wr.dis l k x _ q p _ o hlk hl hk hv rfl hq hp ho hz, (live_lt h.wr hl hv hq ho).2.2⟩⟩
    · by_cases hlk : l = k
      · subst hlk; rw [Store.set_self] at hl; cases hl
      · rw [Store.set_ne _ _ hlk] at hl; exact h.wr.non l hl
    · intro l1 l2 x y p' q' b o hne h1 h2 hx hy hp' hq' hpo hqo
      have g1 : ∃ x', st.ob l1 = some x' ∧ x'.live = true := by
        by_cases e1 : l1 = k
        · subst e1; exact ⟨_, hk, rfl⟩
        · rw [Store.set_ne _ _ e1] at h1; exact ⟨x, h1, hx⟩
      have g2 : ∃ x', st.ob l2 = some x' ∧ x'.live = true := by
        by_cases e1 : l2 = k
        · subst e1; exact ⟨_, hk, rfl⟩
        · rw [Store.set_ne _ _ e1] at h2; exact ⟨y, h2, hy⟩
      obtain ⟨x', g1, gx⟩ := g1
      obtain ⟨y', g2, gy⟩ := g2
      exact h.wr.dis l1 l2 x' y' p' q' b o hne g1 g2 gx gy hp' hq' hpo hqo
  · intro l x q' b o hl hx hq' ho
    by_cases e1 : l = k
    · rw [e1] at hq'
      exact h.own k _ q' b o hk rfl hq' ho
    · rw [Store.set_ne _ _ e1] at hl
      exact h.own l x q' b o hl hx hq' ho

/-- An object is given up; what it was is a new object's, in its own cells. -/
theorem Inv.moveTo {c : Ctx} {F : Cells} {pl : Places} {st : St} {a : Act} {w w' : World} (h : Inv c F pl st a w) {k k' : Key} {kf : Bool} {n : Nat} {es es' : List V} {p p' : Pl}
    (hk : st.ob k = some (.arr kf n es)) (hp : pl k = some p) (hk0 : k'.1 ≠ 0) (hk' : st.ob k' = none) (hs : Same p.has w w') (hex : ∀ o, p.has p.b o → (memOf w' p.b o).isSome ∧ ¬ frozOf w' p.b o)
    (hsub : ∀ b o, p'.has b o → p.has b o) (hpb : p'.b = p.b) (hpn : p'.n = n) (hle : es'.length ≤ p'.C)
    (hr : ∀ (j : Nat) x, es'[j]? = some x → x.cells.length = n ∧ ∀ (c : Nat) y, x.cells[c]? = some y → scal y = true ∧ ∃ cv, memOf w' p'.b (p'.base + j * n + c) = some cv ∧ RepV F (memOf w) (Obj.plc kf pl) y cv) :
    Inv c F (pl.set k' p') { st with ob := (st.ob.set k .dead).set k' (.arr kf n es') } a w' := by
  obtain ⟨q, hq, hro⟩ := h.wr.rep k _ hk
  cases hp.symm.trans hq
  obtain ⟨r1, r2, r3, r4, r5⟩ := hro
  have hkk : k ≠ k' := by rintro rfl; rw [hk] at hk'; cases hk'
  have hpk : pl k' = none := h.wr.non k' hk'
  have hpl : ∀ l q, pl l = some q → pl.set k' p' l = some q := fun l q hl => by
    rw [Places.set_ne]; exact hl
    rintro rfl; rw [hpk] at hl; cases hl
  have hZF : ∀ b o, F b o → ¬ p.has b o := fun b o hf hh => by have := hh.1; subst this; exact (r4 o hh).2.2 hf
  have hFm : ∀ b o, F b o → F b o ∧ memOf w' b o = memOf w b o := fun b o hf => ⟨hf, hs.cell b o (memOf_lt (h.wr.fex b o hf)) (hZF b o hf)⟩
  refine h.turn (F' := F) hs hZF (fun b o hz _ => h.own k _ p b o hk rfl hp hz) (fun _ _ h => h) (fun _ _ h => .inl h) hpl ?_ ?_ (fun l q h0 hq => by
    rw [Places.set_ne _ _ (by rintro rfl; exact hk0 h0)] at hq; exact hq)
  · refine h.wr.turn hs hZF (fun _ _ h => h) (fun _ _ h => .inl h) hpl (fun l x hl => ?_) (fun l hl => ?_) ?_
    · by_cases hlk' : l = k'
      · subst hlk'
        rw [Store.set_self] at hl; cases hl
        refine .inr ⟨p', Places.set_self _ _ _, hpn, r2, hle, fun o ho => ?_, fun j x hx => ?_⟩
        · have ho' := hsub _ _ ho
          rw [hpb] at ho' ⊢
          exact ⟨(hex o ho').1, (hex o ho').2, (r4 o ho').2.2⟩
        · obtain ⟨h1, h2⟩ := hr j x hx
          refine ⟨h1, fun c y hy => ?_⟩
          obtain ⟨g1, cv, g2, g3⟩ := h2 c y hy
          exact ⟨g1, cv, g2, g3.mono hFm (plc_mono hpl)⟩
      · rw [Store.set_ne _ _ hlk'] at hl
        by_cases hlk : l = k
        · subst hlk
          rw [Store.set_self] at hl; cases hl
          exact .inr ⟨p, hpl _ _ hp, trivial⟩
        · rw [Store.set_ne _ _ hlk] at hl
          exact .inl ⟨hl, fun hv q o hq ho => ⟨fun hz => h.wr.dis l k x _ q p _ o hlk hl hk hv rfl hq hp ho hz, (live_lt h.wr hl hv hq ho).2.2⟩⟩
    · by_cases hlk' : l = k'
      · subst hlk'; rw [Store.set_self] at hl; cases hl
      · rw [Store.set_ne _ _ hlk'] at hl
        rw [Places.set_ne _ _ hlk']
        by_cases hlk : l = k
        · subst hlk; rw [Store.set_self] at hl; cases hl
        · rw [Store.set_ne _ _ hlk] at hl; exact h.wr.non l hl
    · -- apart
      have old : ∀ l x q, ((st.ob.set k .dead).set k' (.arr kf n es')) l = some x → x.live = true → pl.set k' p' l = some q → l ≠ k' → l ≠ k ∧ st.ob l = some x ∧ pl l = some q := by
        intro l x q hl hx hq hlk'
        rw [Store.set_ne _ _ hlk'] at hl; rw [Places.set_ne _ _ hlk'] at hq
        by_cases hlk : l = k
        · subst hlk; rw [Store.set_self] at hl; cases hl; cases hx
        · rw [Store.set_ne _ _ hlk] at hl; exact ⟨hlk, hl, hq⟩
      intro l1 l2 x y p1 q1 b o hne h1 h2 hx hy hp1 hq1 hpo hqo
      by_cases e1 : l1 = k'
      · subst e1
        rw [Places.set_self] at hp1; cases hp1
        obtain ⟨n2, o2, q2⟩ := old l2 y q1 h2 hy hq1 (Ne.symm hne)
        exact h.wr.dis l2 k y _ q1 p b o n2 o2 hk hy rfl q2 hp hqo (hsub _ _ hpo)
      · obtain ⟨n1, o1, q1'⟩ := old l1 x p1 h1 hx hp1 e1
        by_cases e2 : l2 = k'
        · subst e2
          rw [Places.set_self] at hq1; cases hq1
          exact h.wr.dis l1 k x _ p1 p b o n1 o1 hk hx rfl q1' hp hpo (hsub _ _ hqo)
        · obtain ⟨n2, o2, q2⟩ := old l2 y q1 h2 hy hq1 e2
          exact h.wr.dis l1 l2 x y p1 q1 b o hne o1 o2 hx hy q1' q2 hpo hqo
  · intro l x q b o hl hx hq ho
    by_cases e1 : l = k'
    · subst e1
      rw [Places.set_self] at hq; cases hq
      exact h.own k _ p b o hk rfl hp (hsub _ _ ho)
    · rw [Store.set_ne _ _ e1] at hl; rw [Places.set_ne _ _ e1] at hq
      by_cases hlk : l = k
      · subst hlk; rw [Store.set_self] at hl; cases hl; cases hx
      · rw [Store.set_ne _ _ hlk] at hl
        exact h.own l x q b o hl hx hq ho

/-- An object is given up. -/
theorem Inv.drop {c : Ctx} {F : Cells} {pl : Places} {st : St} {a : Act} {w : World} (h : Inv c F pl st a w) {k : Key} {x : Obj} (hk : st.ob k = some x) :
    Inv c F pl { st with ob := st.ob.set k .dead } a w := by
  obtain ⟨p, hp, _⟩ := h.wr.rep k _ hk
  have old : ∀ l y, (st.ob.set k .dead) l = some y → y.live = true → st.ob l = some y := by
    intro l y hl hy
    by_cases e : l = k
    · subst e; rw [Store.set_self] at hl; cases hl; cases hy
    · rw [Store.set_ne _ _ e] at hl; exact hl
  refine h.turn (F' := F) (Same.refl noCells w) (fun _ _ _ h => h) (fun _ _ h => h.elim) (fun _ _ h => h) (fun _ _ h => .inl h) (fun _ _ h => h) ?_ (fun l y q b o hl hy => h.own l y q b o (old l y hl hy) hy) (fun _ _ _ h => h)
  refine h.wr.turn (Same.refl noCells w) (fun _ _ _ h => h) (fun _ _ h => h) (fun _ _ h => .inl h) (fun _ _ h => h) (fun l y hl => ?_) (fun l hl => ?_)
    (fun l1 l2 x y p q b o hne h1 h2 hx hy => h.wr.dis l1 l2 x y p q b o hne (old _ _ h1 hx) (old _ _ h2 hy) hx hy)
  · by_cases e : l = k
    · subst e; rw [Store.set_self] at hl; cases hl; exact .inr ⟨p, hp, trivial⟩
    · rw [Store.set_ne _ _ e] at hl
      exact .inl ⟨hl, fun hv q o hq ho => ⟨fun h => h, (live_lt h.wr hl hv hq ho).2.2⟩⟩
  · by_cases e : l = k
    · subst e; rw [Store.set_self] at hl; cases hl
    · rw [Store.set_ne _ _ e] at hl; exact h.wr.non l hl

/-- An object is never written again. -/
theorem Inv.freeze {c : Ctx} {F : Cells} {pl : Places} {st : St} {a : Act} {w : World} (h : Inv c F pl st a w) {k : Key} {n : Nat} {es : List V} {p : Pl} (hk : st.ob k = some (.arr true n es)) (hp : pl k = some p) :
    Inv c (fun b o => F b o ∨ p.has b o) pl { st with ob := st.ob.set k (.froz n es) } a w := by
  obtain ⟨q, hq, hro⟩ := h.wr.rep k _ hk
  cases hp.symm.trans hq
  obtain ⟨r1, r2, r3, r4, r5⟩ := hro
  have old : ∀ l y, (st.ob.set k (.froz n es)) l = some y → y.live = true → l ≠ k ∧ st.ob l = some y := by
    intro l y hl hy
    by_cases e : l = k
    · subst e; rw [Store.set_self] at hl; cases hl; cases hy
    · rw [Store.set_ne _ _ e] at hl; exact ⟨e, hl⟩
  have hFm : ∀ b o, F b o → (F b o ∨ p.has b o) ∧ memOf w b o = memOf w b o := fun b o h => ⟨.inl h, rfl⟩
  refine h.turn (Same.refl noCells w) (fun _ _ _ h => h) (fun _ _ h => h.elim) (fun _ _ h => .inl h) (fun b o hf => hf.imp id (fun ho => h.own k _ p b o hk rfl hp ho)) (fun _ _ h => h) ?_
    (fun l y q b o hl hy => h.own l y q b o (old l y hl hy).2 hy) (fun _ _ _ h => h)
  refine h.wr.turn (Same.refl noCells w) (fun _ _ _ h => h) (fun _ _ h => .inl h) (fun b o hf => hf.imp id (fun ho => by have := ho.1; subst this; exact (r4 o ho).1)) (fun _ _ h => h) (fun l y hl => ?_) (fun l hl => ?_)
    (fun l1 l2 x y p q b o hne h1 h2 hx hy => h.wr.dis l1 l2 x y p q b o hne (old _ _ h1 hx).2 (old _ _ h2 hy).2 hx hy)
  · by_cases e : l = k
    · subst e
      rw [Store.set_self] at hl; cases hl
      refine .inr ⟨p, hp, r1, r2, r3, fun j e he => ?_⟩
      have hj := (List.getElem?_eq_some_iff.1 he).1
      exact ⟨(r5 j e he).turn hFm (fun _ _ h => h) (fun _ _ => rfl), fun c hc => .inr (pl_has r1 r3 hj hc)⟩
    · rw [Store.set_ne _ _ e] at hl
      refine .inl ⟨hl, fun hv q o hq ho => ⟨fun h => h, ?_⟩⟩
      rintro (hf | hf)
      · exact (live_lt h.wr hl hv hq ho).2.2 hf
      · exact h.wr.dis l k y _ q p _ o e hl hk hv rfl hq hp ho hf
  · by_cases e : l = k
    · subst e; rw [Store.set_self] at hl; cases hl
    · rw [Store.set_ne _ _ e] at hl; exact h.wr.non l hl
end Go.Eng
