/- Panes and boxes, in plain Lean. -/
namespace Go.Eng
structure Pn where
  q : Int
  k : Int
  f : Int
  t : Int
  l : Int
  n : Int
  v : List Int
  o : Bool
instance : Inhabited Pn := ⟨⟨0, 0, 0, 0, 0, 0, [], false⟩⟩
structure It where
  s : Int
  r : Int
  p : Pn
instance : Inhabited It := ⟨⟨0, 0, default⟩⟩
structure Rc where
  s : Int
  r : Int
  l : Int
instance : Inhabited Rc := ⟨⟨0, 0, 0⟩⟩
structure Bx where
  cap : Int
  aud : Int
  nx : Int
  gp : Int
  its : List It
  rcs : List Rc
instance : Inhabited Bx := ⟨⟨0, 0, 0, 0, [], []⟩⟩
def WinI (f t : Int) : Prop := 0 ≤ f ∧ f < t ∧ t ≤ 1100
def PnOk (p : Pn) : Prop := (0 ≤ p.q ∧ p.q ≤ 3) ∧ (0 ≤ p.k ∧ p.k ≤ 15) ∧ WinI p.f p.t ∧ (0 ≤ p.l ∧ p.l ≤ 15) ∧ (1 ≤ p.n ∧ p.n ≤ 1000000) ∧ p.v.length ≤ 4 ∧ (p.v.length = 0 ↔ p.o = true)
def RuleI (r : Int) : Prop := -1 ≤ r ∧ r ≤ 15
instance (p : Pn) : Decidable (PnOk p) := by unfold PnOk WinI; exact inferInstance
instance (r : Int) : Decidable (RuleI r) := by unfold RuleI; exact inferInstance
def ItAt (nx len : Int) (i : Nat) (t : It) : Prop := t.s = nx - len + i ∧ 0 ≤ t.s ∧ RuleI t.r ∧ PnOk t.p
def RcAt (nx len : Int) (i : Nat) (r : Rc) : Prop := r.s = nx - len + i ∧ 0 ≤ r.s ∧ RuleI r.r ∧ 0 ≤ r.l ∧ r.l ≤ 15
def BxHd (b : Bx) : Prop := (1 ≤ b.cap ∧ b.cap ≤ 50) ∧ (1 ≤ b.aud ∧ b.aud ≤ 50) ∧ (0 ≤ b.nx ∧ b.nx ≤ 1000000) ∧ (0 ≤ b.gp ∧ b.gp ≤ 1000000) ∧ (b.its.length : Int) ≤ b.cap ∧ (b.rcs.length : Int) ≤ b.aud
structure BxOk (b : Bx) : Prop where
  hd : BxHd b
  its : ∀ i, i < b.its.length → ItAt b.nx b.its.length i (b.its.getD i default)
  rcs : ∀ i, i < b.rcs.length → RcAt b.nx b.rcs.length i (b.rcs.getD i default)
  eq : ∀ i k, i < b.rcs.length → k < b.its.length → (b.its.getD k default).s = (b.rcs.getD i default).s → (b.its.getD k default).r = (b.rcs.getD i default).r ∧ (b.its.getD k default).p.l = (b.rcs.getD i default).l
theorem BxOk.itsNx {b : Bx} (h : BxOk b) : (b.its.length : Int) ≤ b.nx := by
  cases e : b.its.length with
  | zero => have := h.hd.2.2.1; omega
  | succ n => have := h.its 0 (by omega); unfold ItAt at this; omega
theorem BxOk.rcsNx {b : Bx} (h : BxOk b) : (b.rcs.length : Int) ≤ b.nx := by
  cases e : b.rcs.length with
  | zero => have := h.hd.2.2.1; omega
  | succ n => have := h.rcs 0 (by omega); unfold RcAt at this; omega
/-- The other way to say that items and records agree: from the ends. -/
theorem BxOk.ends {b : Bx} (h : BxOk b) (i : Nat) (hi : i < min b.its.length b.rcs.length) :
    (b.its.getD (b.its.length - 1 - i) default).r = (b.rcs.getD (b.rcs.length - 1 - i) default).r ∧ (b.its.getD (b.its.length - 1 - i) default).p.l = (b.rcs.getD (b.rcs.length - 1 - i) default).l := by
  refine h.eq _ _ (by omega) (by omega) ?_
  have h1 := h.its (b.its.length - 1 - i) (by omega)
  have h2 := h.rcs (b.rcs.length - 1 - i) (by omega)
  unfold ItAt at h1; unfold RcAt at h2; omega
theorem BxOk.of {b : Bx} (h0 : BxHd b) (h1 : ∀ i, i < b.its.length → ItAt b.nx b.its.length i (b.its.getD i default)) (h2 : ∀ i, i < b.rcs.length → RcAt b.nx b.rcs.length i (b.rcs.getD i default))
    (h3 : ∀ i, i < min b.its.length b.rcs.length → (b.its.getD (b.its.length - 1 - i) default).r = (b.rcs.getD (b.rcs.length - 1 - i) default).r ∧ (b.its.getD (b.its.length - 1 - i) default).p.l = (b.rcs.getD (b.rcs.length - 1 - i) default).l) : BxOk b := by
  refine ⟨h0, h1, h2, fun i k hi hk he => ?_⟩
  have e1 := h1 k hk
  have e2 := h2 i hi
  unfold ItAt at e1; unfold RcAt at e2
  have := h3 (b.rcs.length - 1 - i) (by omega)
  have a1 : b.its.length - 1 - (b.rcs.length - 1 - i) = k := by omega
  have a2 : b.rcs.length - 1 - (b.rcs.length - 1 - i) = i := by omega
  rwa [a1, a2] at this

/-- A pane is put. -/
def putB (b : Bx) (p : Pn) (r : Int) : Bx :=
  if (b.its.length : Int) < b.cap ∧ (b.rcs.length : Int) < b.aud then { b with nx := b.nx + 1, its := b.its ++ [⟨b.nx, r, p⟩], rcs := b.rcs ++ [⟨b.nx, r, p.l⟩] }
  else { b with gp := b.gp + 1 }
def inB (b : Bx) : Prop := b.gp ≤ 1000000 ∧ b.nx ≤ 1000000
instance (b : Bx) : Decidable (inB b) := by unfold inB; exact inferInstance
theorem getD_snoc {α : Type} [Inhabited α] {l : List α} {x : α} {i : Nat} : (l ++ [x]).getD i default = if i < l.length then l.getD i default else if i = l.length then x else default := by
  rw [List.getD_eq_getElem?_getD, List.getElem?_append]
  split
  · rw [List.getD_eq_getElem?_getD]
  · split
    · rename_i h; subst h; simp
    · rename_i h1 h2; rw [List.getElem?_eq_none (by simp; omega)]; rfl
theorem putB_ok {b : Bx} {p : Pn} {r : Int} (h : BxOk b) (hp : PnOk p) (hr : RuleI r) (hi : inB (putB b p r)) : BxOk (putB b p r) := by
  have hn := h.itsNx
  have hm := h.rcsNx
  obtain ⟨h0, h1, h2, h3⟩ := h
  unfold putB at hi ⊢
  split
  · rename_i c
    rw [if_pos c] at hi
    unfold inB at hi; unfold BxHd at h0
    dsimp only at hi
    refine ⟨?_, ?_, ?_, ?_⟩
    · unfold BxHd; dsimp only; simp only [List.length_append, List.length_singleton]; omega
    · intro i hi2
      dsimp only at hi2 ⊢
      rw [List.length_append, List.length_singleton] at hi2
      rw [getD_snoc, List.length_append, List.length_singleton]
      split
      · rename_i hc; have := h1 i hc; unfold ItAt at this ⊢; exact ⟨by omega, this.2⟩
      · rw [if_pos (by omega)]; unfold ItAt; exact ⟨by dsimp only; omega, by dsimp only; omega, hr, hp⟩
    · intro i hi2
      dsimp only at hi2 ⊢
      rw [List.length_append, List.length_singleton] at hi2
      rw [getD_snoc, List.length_append, List.length_singleton]
      split
      · rename_i hc; have := h2 i hc; unfold RcAt at this ⊢; exact ⟨by omega, this.2⟩
      · rw [if_pos (by omega)]; unfold RcAt; unfold PnOk at hp; exact ⟨by dsimp only; omega, by dsimp only; omega, hr, hp.2.2.2.1⟩
    · intro i k hi2 hk he
      dsimp only at hi2 hk he ⊢
      rw [List.length_append, List.length_singleton] at hi2 hk
      rw [getD_snoc, getD_snoc] at he ⊢
      split at he
      · rename_i hk'
        rw [if_pos hk']
        have e1 := h1 k hk'
        unfold ItAt at e1
        split at he
        · rename_i hi'; rw [if_pos hi']; exact h3 i k hi' hk' he
        · rw [if_pos (by omega)] at he
          exfalso; dsimp only at he; omega
      · rename_i hk'
        rw [if_neg hk', if_pos (by omega)]
        rw [if_pos (by omega)] at he
        split at he
        · rename_i hi'
          have e2 := h2 i hi'
          unfold RcAt at e2
          exfalso; dsimp only at he; omega
        · rename_i hi'; rw [if_neg hi', if_pos (by omega)]; exact ⟨rfl, rfl⟩
  · rename_i c
    rw [if_neg c] at hi
    unfold inB at hi
    refine ⟨?_, h1, h2, h3⟩
    unfold BxHd at h0 ⊢
    dsimp only at hi ⊢; omega
/-- Panes are put, one behind the other. -/
def putsB (r : Int) : Bx → List Pn → Option Bx
  | b, [] => some b
  | b, p :: l => if PnOk p ∧ RuleI r ∧ inB (putB b p r) then putsB r (putB b p r) l else none
theorem putsB_snoc {r : Int} : ∀ (l : List Pn) (b : Bx) (p : Pn), putsB r b (l ++ [p]) = (putsB r b l).bind fun b' => putsB r b' [p]
  | [], b, p => rfl
  | x :: l, b, p => by
    simp only [List.cons_append]
    unfold putsB
    split
    · rw [putsB_snoc l]; rfl
    · rfl
theorem putsB_ok {r : Int} : ∀ (l : List Pn) (b b' : Bx), BxOk b → putsB r b l = some b' → BxOk b'
  | [], b, b', h, e => by cases e; exact h
  | x :: l, b, b', h, e => by
    unfold putsB at e
    split at e
    · rename_i c; exact putsB_ok l _ b' (putB_ok h c.1 c.2.1 c.2.2) e
    · cases e
theorem putB_sum (b : Bx) (p : Pn) (r : Int) : (putB b p r).nx + (putB b p r).gp = b.nx + b.gp + 1 := by unfold putB; split <;> dsimp only <;> omega
theorem putsB_sum {r : Int} : ∀ (l : List Pn) (b b' : Bx), putsB r b l = some b' → b'.nx + b'.gp = b.nx + b.gp + l.length
  | [], b, b', e => by cases e; simp
  | x :: l, b, b', e => by
    unfold putsB at e
    split at e
    · have := putsB_sum l _ b' e; rw [putB_sum] at this; rw [this, List.length_cons]; omega
    · cases e

/-- The items that are polled. -/
def pollB (its : List It) (f : Int) : List It := its.filter fun t => decide (f ≤ t.s)
theorem poll_drop {nx : Int} : ∀ (l : List It) (f : Int), (∀ i, i < l.length → (l.getD i default).s = nx + i) → ∃ j, j ≤ l.length ∧ pollB l f = l.drop j ∧ (0 < j → (l.getD (j - 1) default).s < f)
  | [], f, _ => ⟨0, Nat.le_refl _, rfl, fun h => absurd h (by omega)⟩
  | t :: l, f, h => by
    have h0 := h 0 (by simp)
    simp only [List.getD_cons_zero] at h0
    by_cases c : f ≤ t.s
    · refine ⟨0, by omega, ?_, fun h => absurd h (by omega)⟩
      unfold pollB
      rw [List.drop_zero, List.filter_eq_self]
      intro x hx
      obtain ⟨i, hi, rfl⟩ := List.mem_iff_getElem.1 hx
      have := h i hi
      rw [List.getD_eq_getElem?_getD, List.getElem?_eq_getElem hi, Option.getD_some] at this
      rw [decide_eq_true_iff]; omega
    · have c' : decide (f ≤ t.s) = false := by simpa using c
      have hs : ∀ i, i < l.length → (l.getD i default).s = nx + 1 + i := fun i hi => by
        have := h (i + 1) (by simpa using hi)
        rw [List.getD_cons_succ] at this
        omega
      obtain ⟨j, hj, e, hl⟩ := poll_drop (nx := nx + 1) l f hs
      refine ⟨j + 1, by simpa using hj, ?_, fun _ => ?_⟩
      · unfold pollB at e ⊢
        rw [List.filter_cons, c']
        exact e
      · cases j with
        | zero => simpa using c
        | succ j =>
          rw [show j + 1 + 1 - 1 = (j + 1 - 1) + 1 by omega, List.getD_cons_succ]
          exact hl (by omega)
end Go.Eng
