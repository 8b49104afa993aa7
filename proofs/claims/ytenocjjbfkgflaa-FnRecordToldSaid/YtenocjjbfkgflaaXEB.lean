import Derived.Test.YtenocjjbfkgflaaXEng24
/- A machine of values for the program's code, part 26: a row that may change is lent to a call as a row that nobody changes. -/
namespace Go.Eng
open Go.RowKit

mutual
/-- Names no memory that nobody changes. -/
def V.noIs : V → Bool
  | .ip .. => false
  | .is .. => false
  | .fn _ cs => noIsL cs
  | .agg cs => noIsL cs
  | .tup cs => noIsL cs
  | _ => true
def noIsL : List V → Bool
  | [] => true
  | v :: vs => v.noIs && noIsL vs
end

theorem noIs_get : ∀ {vs : List V}, noIsL vs = true → ∀ (i : Nat) x, vs[i]? = some x → x.noIs = true
  | v :: vs, h, i, x, hx => by
    simp only [noIsL, Bool.and_eq_true] at h
    cases i with
    | zero => simp at hx; subst hx; exact h.1
    | succ i => exact noIs_get h.2 i x (by simpa using hx)

theorem noIsL_of : ∀ {vs : List V}, (∀ x ∈ vs, x.noIs = true) → noIsL vs = true
  | [], _ => rfl
  | v :: vs, h => by simp only [noIsL, Bool.and_eq_true]; exact ⟨h v (by simp), noIsL_of fun x hx => h x (by simp [hx])⟩

theorem RepV.noF {F : Cells} {m : Mem} {pl : Places} {v : V} {cv : Value} (h : RepV F m pl v cv) :
    ∀ {F' : Cells} {m' : Mem} {pl' : Places}, v.noIs = true → (∀ k p, pl k = some p → pl' k = some p) → RepV F' m' pl' v cv := by
  induction h with
  | un => intro _ _ _ _ _; exact .un
  | lit => intro _ _ _ _ _; exact .lit
  | e0 => intro _ _ _ _ _; exact .e0
  | e0n => intro _ _ _ _ _; exact .e0n
  | isn => intro _ _ _ h _; simp [V.noIs] at h
  | lp hp h0 => intro _ _ _ _ hpl; exact .lp (hpl _ _ hp) h0
  | ls hp h0 h1 h2 h3 => intro _ _ _ _ hpl; exact .ls (hpl _ _ hp) h0 h1 h2 h3
  | ip => intro _ _ _ h _; simp [V.noIs] at h
  | is => intro _ _ _ h _; simp [V.noIs] at h
  | fn cs h1 _ ih => intro _ _ _ h hpl; exact .fn cs h1 (fun i x hi hx => ih i x hi hx (noIs_get (by simpa [V.noIs] using h) i x hx) hpl)
  | agg cs h1 _ ih => intro _ _ _ h hpl; exact .agg cs h1 (fun i x hi hx => ih i x hi hx (noIs_get (by simpa [V.noIs] using h) i x hx) hpl)
  | tup cs h1 _ ih => intro _ _ _ h hpl; exact .tup cs h1 (fun i x hi hx => ih i x hi hx (noIs_get (by simpa [V.noIs] using h) i x hx) hpl)

theorem noIs_cells {e : V} (h : e.noIs = true) (c : Nat) (x : V) (hx : e.cells[c]? = some x) : x.noIs = true := by
  cases e with
  | agg cs => exact noIs_get (vs := cs) (by simpa [V.noIs] using h) c x hx
  | _ => simp only [V.cells, List.getElem?_singleton] at hx; split at hx <;> cases hx; exact h

def Obj.noIs : Obj → Bool
  | .dead => true
  | .arr _ _ es => noIsL es
  | .froz _ _ => false

def noIsO : List Obj → Bool
  | [] => true
  | x :: xs => x.noIs && noIsO xs

theorem noIsO_get : ∀ {vs : List Obj}, noIsO vs = true → ∀ (i : Nat) x, vs[i]? = some x → x.noIs = true
  | v :: vs, h, i, x, hx => by
    simp only [noIsO, Bool.and_eq_true] at h
    cases i with
    | zero => simp at hx; subst hx; exact h.1
    | succ i => exact noIsO_get h.2 i x (by simpa using hx)

/-- How a value looks behind the lending of object j: a row of elements es. -/
inductive Lend0 (k : Key) (n : Nat) (es : List V) : V → V → Prop
  | same {v} : k ∉ v.ments → Lend0 k n es v v
  | ls {i len es'} : i + len ≤ es.length → es' = (es.drop i).take len → Lend0 k n es (.ls k n i len) (.is n es')
  | lp {i off} : Lend0 k n es (.lp k n i off) (.ip n es i off)

inductive LendL (k : Key) (n : Nat) (es : List V) : List V → List V → Prop
  | nil : LendL k n es [] []
  | cons {x y xs ys} : Lend0 k n es x y → LendL k n es xs ys → LendL k n es (x :: xs) (y :: ys)

inductive LendA (k : Key) (n : Nat) (es : List V) : List V → List V → Prop
  | nil : LendA k n es [] []
  | cons {x y xs ys} : Lend0 k n es x y → LendA k n es xs ys → LendA k n es (x :: xs) (y :: ys)
  | agg {cs ds xs ys} : LendL k n es cs ds → LendA k n es xs ys → LendA k n es (.agg cs :: xs) (.agg ds :: ys)

theorem Lend0.all {k : Key} {n : Nat} {es : List V} {len : Nat} (h : len = es.length) : Lend0 k n es (.ls k n 0 len) (.is n es) :=
  .ls (by omega) (by subst h; simp)

theorem LendL.get {k : Key} {n : Nat} {es xs ys : List V} (h : LendL k n es xs ys) : xs.length = ys.length ∧ ∀ (i : Nat) y, ys[i]? = some y → ∃ x, xs[i]? = some x ∧ Lend0 k n es x y := by
  induction h with
  | nil => exact ⟨rfl, fun i y h => by simp at h⟩
  | cons h0 _ ih =>
    refine ⟨by simp [ih.1], fun i y h => ?_⟩
    cases i with
    | zero => simp at h; subst h; exact ⟨_, rfl, h0⟩
    | succ i => simpa using ih.2 i y (by simpa using h)

theorem LendA.get {k : Key} {n : Nat} {es xs ys : List V} (h : LendA k n es xs ys) : xs.length = ys.length ∧ ∀ (i : Nat) y, ys[i]? = some y → ∃ x, xs[i]? = some x ∧ (Lend0 k n es x y ∨ ∃ cs ds, x = .agg cs ∧ y = .agg ds ∧ LendL k n es cs ds) := by
  induction h with
  | nil => exact ⟨rfl, fun i y h => by simp at h⟩
  | cons h0 _ ih =>
    refine ⟨by simp [ih.1], fun i y h => ?_⟩
    cases i with
    | zero => simp at h; subst h; exact ⟨_, rfl, .inl h0⟩
    | succ i => simpa using ih.2 i y (by simpa using h)
  | agg h0 _ ih =>
    refine ⟨by simp [ih.1], fun i y h => ?_⟩
    cases i with
    | zero => simp at h; subst h; exact ⟨_, rfl, .inr ⟨_, _, rfl, rfl, h0⟩⟩
    | succ i => simpa using ih.2 i y (by simpa using h)

/-- The cells of a lent row. -/
def lentF (p : Pl) (n len : Nat) : Cells := fun b o => b = p.b ∧ ∃ j c, j < len ∧ c < n ∧ o = p.base + j * n + c

section
variable {F : Cells} {m : Mem} {fz : Cells} {pl : Places} {p : Pl} {n : Nat} {es : List V} {k : Key}

theorem lent_has (hr : RepO F m fz pl p (.arr true n es)) {b o : Nat} (h : lentF p n es.length b o) : p.has b o := by
  obtain ⟨h1, h2, h3, -, -⟩ := hr
  obtain ⟨rfl, j, c, hj, hc, rfl⟩ := h
  refine ⟨rfl, by omega, ?_⟩
  rw [h1]
  have : (j + 1) * n ≤ p.C * n := Nat.mul_le_mul_right n (by omega)
  rw [Nat.add_mul] at this
  omega

theorem lend0_rep (hr : RepO F m fz pl p (.arr true n es)) (hk : pl k = some p) {pl1 : Places} (h1 : ∀ l q, l ≠ k → pl l = some q → pl1 l = some q) {x y : V} {cv : Value} (hl : Lend0 k n es x y) (h : RepV F m pl x cv) :
    RepV (fun b o => F b o ∨ lentF p n es.length b o) m pl1 y cv := by
  obtain ⟨r1, r2, r3, r4, r5⟩ := hr
  have up : ∀ {v cv}, RepV F m noPl v cv → RepV (fun b o => F b o ∨ lentF p n es.length b o) m noPl v cv := fun h => h.mono (fun b o h => ⟨.inl h, rfl⟩) (fun _ _ h => h)
  have cellsOk : ∀ (j : Nat) e, es[j]? = some e → e.cells.length = n := fun j e he => (r5 j e he).1
  have cf : ∀ (j : Nat) e (c : Nat) x, es[j]? = some e → e.cells[c]? = some x → scal x = true ∧ lentF p n es.length p.b (p.base + j * n + c) ∧ m p.b (p.base + j * n + c) = some ((m p.b (p.base + j * n + c)).getD undef) ∧ RepV (fun b o => F b o ∨ lentF p n es.length b o) m noPl x ((m p.b (p.base + j * n + c)).getD undef) := by
    intro j e c x he hx
    obtain ⟨q1, q2⟩ := r5 j e he
    obtain ⟨q3, cv, q4, q5⟩ := q2 c x hx
    have hj := (List.getElem?_eq_some_iff.1 he).1
    have hc : c < n := by have := (List.getElem?_eq_some_iff.1 hx).1; omega
    refine ⟨q3, ⟨rfl, j, c, hj, hc, rfl⟩, ?_, ?_⟩
    · rw [q4]; rfl
    · rw [q4]; exact up (by simpa [Obj.plc] using q5)
  cases hl with
  | same hm => exact (h.mono (fun b o h => ⟨.inl h, rfl⟩) (fun _ _ h => h)).places (fun l q hl hq => h1 l q (fun e => hm (e ▸ hl)) hq)
  | @ls i len es' hi he =>
    subst he
    cases h with
    | @ls _ _ _ _ _ q a cap hq g0 g1 g2 g3 =>
      rw [hk] at hq; cases hq
      have hlen : ((es.drop i).take len).length = len := by simp; omega
      have key := RepV.is (F := fun b o => F b o ∨ lentF p n es.length b o) (m := m) (pl := pl1) (es := (es.drop i).take len) (a := a) (cap := cap) (n := n) (fun j c => (m p.b (p.base + (i + j) * n + c)).getD undef) (by omega)
        (fun hne => by
          have : len ≠ 0 := by intro e; subst e; simp at hne
          rw [g3 (by omega)])
        (fun j e he => by
          rw [List.getElem?_take] at he; split at he <;> try cases he
          rw [List.getElem?_drop] at he; exact cellsOk _ e he)
        (fun j e c x he hx => by
          rw [List.getElem?_take] at he; split at he <;> try cases he
          rename_i hjl
          rw [List.getElem?_drop] at he
          obtain ⟨q1, q2, q3, q4⟩ := cf _ e c x he hx
          have ha := g3 (by omega)
          subst ha
          have e1 : p.base + i * n + j * n + c = p.base + (i + j) * n + c := by rw [Nat.add_mul]; omega
          simp only [e1]
          exact ⟨q1, .inr q2, q3⟩)
        (fun j e c x he hx => by
          rw [List.getElem?_take] at he; split at he <;> try cases he
          rw [List.getElem?_drop] at he
          exact (cf _ e c x he hx).2.2.2)
      rw [hlen] at key
      exact key
  | lp =>
    cases h with
    | lp hq g0 =>
      rw [hk] at hq; cases hq
      exact .ip (fun j c => (m p.b (p.base + j * n + c)).getD undef) cellsOk
        (fun j e c x he hx => by obtain ⟨q1, q2, q3, q4⟩ := cf j e c x he hx; exact ⟨q1, .inr q2, q3⟩)
        (fun j e c x he hx => (cf j e c x he hx).2.2.2)
end

theorem argOb_app {objs : List Obj} {x : Obj} {k : Key} (h : k ≠ (0, objs.length)) : argOb (objs ++ [x]) k = argOb objs k := by
  unfold argOb
  split
  · rename_i e
    rw [List.getElem?_append]
    split
    · rfl
    · rename_i h2
      rw [List.getElem?_eq_none (by omega : objs.length ≤ k.2)]
      rw [List.getElem?_eq_none]
      simp only [List.length_singleton]
      have : k.2 ≠ objs.length := fun e2 => h (Prod.ext e e2)
      omega
  · rfl

theorem argOb_at {objs : List Obj} {x : Obj} : argOb (objs ++ [x]) (0, objs.length) = some x := by
  simp [argOb]

/-- A row that may change is lent to a call that takes it as a row that nobody changes; behind the call it is what it was. -/
theorem AC.borrow {P : Program} {f : FuncId} {args args' : List V} {objs : List Obj} {n : Nat} {es : List V} {K : V → List Obj → List Obj → Prop}
    (hl : LendA (0, objs.length) n es args args') (hm : ∀ x ∈ objs, (0, objs.length) ∉ x.ments)
    (h : AC P f args' objs fun v objs' news => (v.noIs = true ∧ noIsO objs' = true ∧ noIsO news = true) ∧ K v (objs' ++ [.arr true n es]) news) :
    AC P f args (objs ++ [.arr true n es]) K := by
  intro F pl w cargs hw hsz hrep
  obtain ⟨p, hp, hro⟩ := hw.rep (0, objs.length) _ argOb_at
  have hro' := hro
  obtain ⟨r1, r2, r3, r4, r5⟩ := hro'
  let F1 : Cells := fun b o => F b o ∨ lentF p n es.length b o
  let pl1 : Places := fun k => if k = (0, objs.length) then none else pl k
  have hpl1 : ∀ l q, l ≠ (0, objs.length) → pl l = some q → pl1 l = some q := fun l q hne hq => by simp only [pl1]; rw [if_neg hne]; exact hq
  have isS : ∀ {b o}, p.has b o → (memOf w b o).isSome ∧ ¬ frozOf w b o ∧ ¬ F b o := fun {b o} hh => by obtain ⟨rfl, _⟩ := id hh; exact r4 o hh
  have hlt : ∀ {b o}, p.has b o → b < w.heap.size := fun hh => memOf_lt (isS hh).1
  have hob : ∀ k x, argOb objs k = some x → k ≠ (0, objs.length) ∧ argOb (objs ++ [.arr true n es]) k = some x := fun k x hx => by
    have hne : k ≠ (0, objs.length) := by
      rintro rfl; simp [argOb] at hx
    exact ⟨hne, by rw [argOb_app hne]; exact hx⟩
  have hw1 : WR F1 pl1 (argOb objs) w := by
    refine ⟨fun k x hx => ?_, fun k hx => ?_, fun k l x y q r b o hkl hx hy h1 h2 hq hr' hb => ?_, fun b o hf => ?_⟩
    · obtain ⟨hne, hx'⟩ := hob k x hx
      obtain ⟨q, hq, hr⟩ := hw.rep k x hx'
      refine ⟨q, hpl1 _ _ hne hq, ?_⟩
      cases x with
      | dead => trivial
      | arr kf n' es' =>
        obtain ⟨s1, s2, s3, s4, s5⟩ := hr
        refine ⟨s1, s2, s3, fun o ho => ⟨(s4 o ho).1, (s4 o ho).2.1, ?_⟩, fun j e he => ?_⟩
        · rintro (hf | hf)
          · exact (s4 o ho).2.2 hf
          · exact hw.dis k (0, objs.length) _ _ q p _ _ hne hx' argOb_at rfl rfl hq hp ho (lent_has hro hf)
        · obtain ⟨t1, t2⟩ := s5 j e he
          refine ⟨t1, fun c x hx2 => ?_⟩
          obtain ⟨u1, cv, u2, u3⟩ := t2 c x hx2
          refine ⟨u1, cv, u2, ?_⟩
          have u4 : RepV F1 (memOf w) (Obj.plc kf pl) x cv := u3.mono (fun b o h => ⟨.inl h, rfl⟩) (fun _ _ h => h)
          refine u4.places fun l q hl hq => ?_
          cases kf with
          | true => simpa [Obj.plc] using hq
          | false =>
            simp only [Obj.plc] at hq ⊢
            refine hpl1 l q ?_ hq
            rintro rfl
            have hxm : (Obj.arr false n' es') ∈ objs := by
              unfold argOb at hx; split at hx
              · exact List.mem_of_getElem? hx
              · cases hx
            refine hm _ hxm ?_
            simp only [Obj.ments]
            refine ments_mem (List.mem_of_getElem? he) _ ?_
            cases e with
            | agg cs => simp only [V.ments]; exact ments_mem (List.mem_of_getElem? (by simpa [V.cells] using hx2)) _ hl
            | _ =>
              simp only [V.cells, List.getElem?_singleton] at hx2
              split at hx2 <;> cases hx2
              exact hl
      | froz n' es' =>
        obtain ⟨s1, s2, s3, s5⟩ := hr
        refine ⟨s1, s2, s3, fun j e he => ⟨⟨(s5 j e he).1.1, fun c x hx2 => ?_⟩, fun c hc => .inl ((s5 j e he).2 c hc)⟩⟩
        obtain ⟨u1, cv, u2, u3⟩ := (s5 j e he).1.2 c x hx2
        exact ⟨u1, cv, u2, u3.mono (fun b o h => ⟨.inl h, rfl⟩) (fun _ _ h => h)⟩
    · simp only [pl1]
      split
      · rfl
      · rename_i hne; exact hw.non k (by rw [argOb_app hne]; exact hx)
    · obtain ⟨hne, hx'⟩ := hob k x hx
      obtain ⟨hne2, hy'⟩ := hob l y hy
      simp only [pl1] at hq hr'
      rw [if_neg hne] at hq; rw [if_neg hne2] at hr'
      exact hw.dis k l x y q r b o hkl hx' hy' h1 h2 hq hr' hb
    · rcases hf with hf | hf
      · exact hw.fex b o hf
      · exact (isS (lent_has hro hf)).1
  obtain ⟨len0, hget⟩ := hl.get
  have hr1 : ∀ (i : Nat) y (hi : i < cargs.size), args'[i]? = some y → RepV F1 (memOf w) pl1 y cargs[i] := by
    intro i y hi hy
    obtain ⟨x, hx, hlx⟩ := hget i y hy
    have hrx := hrep i x hi hx
    rcases hlx with h0 | ⟨cs, ds, rfl, rfl, h0⟩
    · exact lend0_rep hro hp hpl1 h0 hrx
    · generalize cargs[i] = cv0 at hrx ⊢
      cases hrx with
      | agg ca hca hcr =>
        refine .agg ca (by rw [hca, h0.get.1]) (fun i2 y2 hi2 hy2 => ?_)
        obtain ⟨x2, hx2, h2⟩ := h0.get.2 i2 y2 hy2
        exact lend0_rep hro hp hpl1 h2 (hcr i2 x2 hi2 hx2)
  refine (h F1 pl1 w cargs hw1 (by rw [hsz, len0]) hr1).mono fun cv w' ⟨v, objs', news, F', pl', ⟨⟨n1, n2, n3⟩, hK⟩, hb⟩ => ?_
  have hlive : (Obj.arr true n es).live = true := rfl
  have hand : ∀ {b o}, handed pl1 objs b o → handed pl (objs ++ [.arr true n es]) b o ∧ ¬ p.has b o := by
    rintro b o ⟨j, x, q, hx, hlx, hq, hh⟩
    have hj : j < objs.length := (List.getElem?_eq_some_iff.1 hx).1
    have hne : ((0, j) : Key) ≠ (0, objs.length) := by intro e; cases e; omega
    simp only [pl1] at hq
    rw [if_neg hne] at hq
    refine ⟨⟨j, x, q, by rw [List.getElem?_append_left hj]; exact hx, hlx, hq, hh⟩, fun hh2 => ?_⟩
    exact hw.dis (0, j) (0, objs.length) x _ q p b o hne (by simp [argOb, List.getElem?_append_left hj, hx]) argOb_at hlx rfl hq hp hh hh2
  have hfr : ∀ {b o}, p.has b o → memOf w' b o = memOf w b o ∧ (frozOf w' b o ↔ frozOf w b o) := fun {b o} hh =>
    ⟨hb.same.cell b o (hlt hh) fun hx => (hand hx).2 hh, hb.same.froz b o (hlt hh) fun hx => (hand hx).2 hh⟩
  have hres : ∀ k x, resOb objs' news k = some x → k ≠ (0, objs.length) := by
    rintro k x hx rfl
    simp only [resOb, if_true] at hx
    have := (List.getElem?_eq_some_iff.1 hx).1
    have := hb.len
    omega
  have hpl0 : pl' (0, objs.length) = none := hb.wr.non _ (by
    simp only [resOb, if_true]
    rw [List.getElem?_eq_none (by have := hb.len; omega)])
  let F2 : Cells := fun b o => F' b o ∧ ¬ p.has b o
  let pl2 : Places := fun k => if k = (0, objs.length) then some p else pl' k
  have hpl2 : ∀ k q, pl' k = some q → pl2 k = some q := fun k q hq => by
    simp only [pl2]
    rw [if_neg]
    · exact hq
    · rintro rfl; rw [hpl0] at hq; cases hq
  have hobs : ∀ k, k ≠ (0, objs.length) → resOb (objs' ++ [.arr true n es]) news k = resOb objs' news k := fun k hne => by
    unfold resOb
    split
    · rename_i e
      rw [List.getElem?_append]
      split
      · rfl
      · rename_i h2
        rw [List.getElem?_eq_none (by omega : objs'.length ≤ k.2), List.getElem?_eq_none]
        simp only [List.length_singleton]
        have : k.2 ≠ objs.length := fun e2 => hne (Prod.ext e e2)
        have := hb.len
        omega
    · rfl
  have hobat : resOb (objs' ++ [.arr true n es]) news (0, objs.length) = some (.arr true n es) := by
    simp only [resOb, if_true]
    rw [List.getElem?_append_right (by have := hb.len; omega)]
    simp [hb.len]
  have hFw : ∀ b o, F b o → F2 b o ∧ memOf w' b o = memOf w b o := fun b o hf => by
    have h1 : ¬ p.has b o := fun hh => (isS hh).2.2 hf
    refine ⟨⟨hb.fF b o (.inl hf), h1⟩, ?_⟩
    refine hb.same.cell b o (memOf_lt (hw.fex b o hf)) fun ⟨j, x, q, hx, hlx, hq, hh⟩ => ?_
    obtain ⟨q', hq', hr'⟩ := hw1.rep (0, j) x (by simp [argOb, hx])
    rw [hq] at hq'; cases hq'
    cases x with
    | dead => cases hlx
    | froz => cases hlx
    | arr kf n' es' => obtain ⟨rfl, _⟩ := id hh; exact (hr'.2.2.2.1 o hh).2.2 (.inl hf)
  refine ⟨v, objs' ++ [.arr true n es], news, F2, pl2, hK, ?_⟩
  refine ⟨hb.rep.noF n1 hpl2, ⟨fun k x hx => ?_, fun k hx => ?_, fun k l x y q r b o hkl hx hy h1 h2 hq hr' hb1 hb2 => ?_, fun b o hf => hb.wr.fex b o hf.1⟩, by simp only [List.length_append, hb.len], fun j hj => ?_, fun b o hf => (hFw b o hf).1, fun b o hf => ?_, fun k x q b o hx hlx hq hh => ?_, ?_⟩
  · by_cases hk : k = (0, objs.length)
    · subst hk
      rw [hobat] at hx; cases hx
      refine ⟨p, by simp [pl2], r1, r2, r3, fun o ho => ⟨by rw [(hfr ho).1]; exact (r4 o ho).1, by rw [(hfr ho).2]; exact (r4 o ho).2.1, fun hf => hf.2 ho⟩, fun j e he => ?_⟩
      obtain ⟨t1, t2⟩ := r5 j e he
      refine ⟨t1, fun c x hx => ?_⟩
      obtain ⟨u1, cv, u2, u3⟩ := t2 c x hx
      have hc : c < n := by have := (List.getElem?_eq_some_iff.1 hx).1; omega
      have hj : j < es.length := (List.getElem?_eq_some_iff.1 he).1
      refine ⟨u1, cv, ?_, ?_⟩
      · rw [(hfr (lent_has hro ⟨rfl, j, c, hj, hc, rfl⟩)).1]; exact u2
      · simp only [Obj.plc, if_true] at u3 ⊢
        exact u3.mono (fun b o h => ⟨(hFw b o h).1, (hFw b o h).2⟩) (fun _ _ h => h)
    · rw [hobs k hk] at hx
      obtain ⟨q, hq, hr⟩ := hb.wr.rep k x hx
      refine ⟨q, hpl2 _ _ hq, ?_⟩
      have hno : x.noIs = true := by
        unfold resOb at hx
        split at hx
        · exact noIsO_get n2 _ _ hx
        · split at hx
          · exact noIsO_get n3 _ _ hx
          · cases hx
      cases x with
      | dead => trivial
      | froz => simp [Obj.noIs] at hno
      | arr kf n' es' =>
        obtain ⟨s1, s2, s3, s4, s5⟩ := hr
        refine ⟨s1, s2, s3, fun o ho => ⟨(s4 o ho).1, (s4 o ho).2.1, fun hf => (s4 o ho).2.2 hf.1⟩, fun j e he => ?_⟩
        obtain ⟨t1, t2⟩ := s5 j e he
        refine ⟨t1, fun c x hx2 => ?_⟩
        obtain ⟨u1, cv, u2, u3⟩ := t2 c x hx2
        refine ⟨u1, cv, u2, u3.noF (noIs_cells (noIs_get (by simpa [Obj.noIs] using hno) j e he) c x hx2) fun l q hq => ?_⟩
        cases kf with
        | true => simpa [Obj.plc] using hq
        | false => simp only [Obj.plc] at hq ⊢; exact hpl2 _ _ hq
  · by_cases hk : k = (0, objs.length)
    · subst hk; rw [hobat] at hx; cases hx
    · rw [hobs k hk] at hx
      simp only [pl2]; rw [if_neg hk]; exact hb.wr.non k hx
  · have go : ∀ (k : Key) x q b o, k ≠ (0, objs.length) → resOb objs' news k = some x → x.live = true → pl2 k = some q → q.has b o → ¬ p.has b o := by
      intro k x q b o hk hx hlx hq hh hh2
      simp only [pl2] at hq
      rw [if_neg hk] at hq
      rcases hb.own k x q b o hx hlx hq hh with h3 | h3
      · exact (hand h3).2 hh2
      · have := hlt hh2; omega
    by_cases hk : k = (0, objs.length)
    · have hl' : l ≠ (0, objs.length) := fun e => hkl (hk.trans e.symm)
      subst hk
      simp only [pl2, if_true] at hq; cases hq
      rw [hobs l hl'] at hy
      exact go l y r b o hl' hy h2 hr' hb2 hb1
    · by_cases hl' : l = (0, objs.length)
      · subst hl'
        simp only [pl2, if_true] at hr'; cases hr'
        rw [hobs k hk] at hx
        exact go k x q b o hk hx h1 hq hb1 hb2
      · rw [hobs k hk] at hx; rw [hobs l hl'] at hy
        simp only [pl2] at hq hr'
        rw [if_neg hk] at hq; rw [if_neg hl'] at hr'
        exact hb.wr.dis k l x y q r b o hkl hx hy h1 h2 hq hr' hb1 hb2
  · simp only [List.length_append, List.length_singleton] at hj
    by_cases e : j = objs.length
    · subst e; simp only [pl2, if_true]; exact hp.symm
    · have hne : ((0, j) : Key) ≠ (0, objs.length) := by intro e2; cases e2; exact e rfl
      simp only [pl2]; rw [if_neg hne, hb.plk j (by omega)]
      simp only [pl1]; rw [if_neg hne]
  · rcases hb.fX b o hf.1 with (h3 | h3) | h3 | h3
    · exact .inl h3
    · exact absurd (lent_has hro h3) hf.2
    · exact .inr (.inl (hand h3).1)
    · exact .inr (.inr h3)
  · by_cases hk : k = (0, objs.length)
    · subst hk
      simp only [pl2, if_true] at hq; cases hq
      exact .inl ⟨objs.length, .arr true n es, p, by simp, rfl, hp, hh⟩
    · rw [hobs k hk] at hx
      simp only [pl2] at hq
      rw [if_neg hk] at hq
      rcases hb.own k x q b o hx hlx hq hh with h3 | h3
      · exact .inl (hand h3).1
      · exact .inr h3
  · exact ⟨hb.same.os, hb.same.tape, hb.same.output, hb.same.size, fun b o h1 h2 => hb.same.cell b o h1 fun h3 => h2 (hand h3).1, fun b o h1 h2 => hb.same.froz b o h1 fun h3 => h2 (hand h3).1, fun b h1 h2 => hb.same.blk b h1 fun o h3 => h2 o (hand h3).1⟩
end Go.Eng

/- A machine of values for the program's code, part 27: a law over a row of bytes. -/
namespace Go.Eng
open Go.RowKit

/-- A call that is handed no objects and returns a known value: what was there when it began is there as it was. -/
theorem AC.enter {P : Program} {f : FuncId} {fn : Func} (hf : P.funcs[f]? = some fn) (hb : fn.body.isSome = true) (hn : (fn.name == "runtime.NumGoroutine") = false) {args : List V} {v : Value}
    (h : AC P f args [] fun r _ _ => r = .lit v) {F : Cells} {w : World} {cargs : Array Value} (hF : ∀ b o, F b o → (memOf w b o).isSome) (hs : cargs.size = args.length)
    (hr : ∀ (i : Nat) x (hi : i < cargs.size), args[i]? = some x → RepV F (memOf w) noPl x cargs[i]) :
    Calls P f cargs w fun e w' => e = .returned v ∧ Below w.heap.size w w' := by
  have hw : WR F noPl (argOb []) w := by
    refine ⟨fun k x hx => ?_, fun _ _ => rfl, fun k l x y p q b o _ hx => ?_, hF⟩
    · simp [argOb] at hx
    · simp [argOb] at hx
  have h1 := h F noPl w cargs hw hs hr
  have hrun : (callFunc f cargs).run P w = .ok (.enter f cargs) w := by
    have hname' : ¬ fn.name = "runtime.NumGoroutine" := by simpa using hn
    have hb' : fn.body ≠ none := by intro e; rw [e] at hb; cases hb
    simp [callFunc, hf, hname', hb']
  rw [hrun] at h1
  refine Calls.mono (show Calls P f cargs w _ from h1) fun e w' ⟨cv, he, r, objs', news, F', pl', hK, hbk⟩ => ?_
  subst hK
  refine ⟨by rw [he, hbk.rep.lit_inv], hbk.same.os, hbk.same.tape, hbk.same.output, hbk.same.size, fun k hk => hbk.same.blk k hk fun o ho => ?_⟩
  obtain ⟨j, x, p, hx, _⟩ := ho
  simp at hx

/-- A row of small numbers in memory, as the machine takes it. -/
theorem rep_ints {w : World} {k : IntKind} {x : Addr} {len cap : Nat} (zs : List Int) (hx : x.spot = none) (hlen : len ≤ cap) (hl : len ≤ zs.length) (hc : ∀ i, i < len → w.cell? (x.add i) = some (.int k (zs.getD i 0))) :
    (∀ b o, (b = x.block ∧ x.off ≤ o ∧ o < x.off + len) → (memOf w b o).isSome) ∧
    RepV (fun b o => b = x.block ∧ x.off ≤ o ∧ o < x.off + len) (memOf w) noPl (.is 1 ((zs.take len).map fun n => .lit (.int k n))) (.slice (some x) len cap) := by
  obtain ⟨xb, xo, xs⟩ := x
  simp only at hx; subst hx
  have hc' : ∀ i, i < len → memOf w xb (xo + i) = some (.int k (zs.getD i 0)) := fun i hi => by
    have := hc i hi
    rwa [show (⟨xb, xo, none⟩ : Addr).add i = ⟨xb, xo + i, none⟩ from by unfold Addr.add; split <;> simp_all] at this
  refine ⟨fun b o ⟨hb, h1, h2⟩ => ?_, ?_⟩
  · simp only at hb h1 h2
    subst hb
    have := hc' (o - xo) (by omega)
    rw [show xo + (o - xo) = o by omega] at this
    rw [this]; rfl
  · have hlen2 : ((zs.take len).map fun n => V.lit (.int k n)).length = len := by simp; omega
    have el : ∀ (j : Nat) e (c : Nat) y, ((zs.take len).map fun n => V.lit (.int k n))[j]? = some e → e.cells[c]? = some y → j < len ∧ c = 0 ∧ y = .lit (.int k (zs.getD j 0)) := by
      intro j e c y he hy
      rw [List.getElem?_map, List.getElem?_take] at he
      split at he
      · rename_i hj
        obtain ⟨z, hz, rfl⟩ := Option.map_eq_some_iff.1 he
        simp only [V.cells, List.getElem?_singleton] at hy
        split at hy <;> cases hy
        rename_i hc0
        exact ⟨hj, hc0, by rw [List.getD_eq_getElem?_getD, hz]; rfl⟩
      · cases he
    have key := RepV.is (F := fun b o => b = xb ∧ xo ≤ o ∧ o < xo + len) (m := memOf w) (pl := noPl) (es := (zs.take len).map fun n => V.lit (.int k n)) (a := ⟨xb, xo, none⟩) (cap := cap) (n := 1) (fun j _ => .int k (zs.getD j 0)) (by rw [hlen2]; exact hlen) (fun _ => rfl)
      (fun j e he => by
        rw [List.getElem?_map] at he
        obtain ⟨z, hz, rfl⟩ := Option.map_eq_some_iff.1 he
        rfl)
      (fun j e c y he hy => by
        obtain ⟨h1, rfl, rfl⟩ := el j e c y he hy
        refine ⟨rfl, ⟨rfl, by simp, by simp only; omega⟩, ?_⟩
        simp only [Nat.mul_one, Nat.add_zero]
        exact hc' j h1)
      (fun j e c y he hy => by
        obtain ⟨h1, rfl, rfl⟩ := el j e c y he hy
        exact .lit)
    rw [hlen2] at key
    exact key
end Go.Eng

/- A machine of values for the program's code, part 28: what a walk is asked for, in one step each. -/
namespace Go.Eng
open Go.RowKit

/-- A place in a row, by its number. -/
theorem map_at {α : Type} [Inhabited α] {f : α → V} {l : List α} {i : Nat} {K : V → Prop} (h : i < l.length) (k : K (f (l.getD i default))) : ∃ e, (l.map f)[((i : Nat) : Int).toNat]? = some e ∧ K e :=
  ⟨_, by rw [Int.toNat_natCast, List.getElem?_map, List.getD_eq_getElem?_getD, List.getElem?_eq_getElem h]; rfl, k⟩
theorem map_at0 {α : Type} [Inhabited α] {f : α → V} {l : List α} {i : Nat} {K : V → Prop} (h : i < l.length) (k : K (f (l.getD i default))) : ∃ e, (l.map f)[0 + ((i : Nat) : Int).toNat]? = some e ∧ K e := by
  rw [Nat.zero_add]; exact map_at h k
/-- The same, the place being a number with a name. -/
theorem map_atI {α : Type} [Inhabited α] {f : α → V} {l : List α} {z : Int} {K : V → Prop} (h : 0 ≤ z ∧ z < l.length) (k : K (f (l.getD z.toNat default))) : ∃ e, (l.map f)[z.toNat]? = some e ∧ K e :=
  ⟨_, map_get (by rw [List.length_map]; exact h), k⟩
theorem map_atI0 {α : Type} [Inhabited α] {f : α → V} {l : List α} {z : Int} {K : V → Prop} (h : 0 ≤ z ∧ z < l.length) (k : K (f (l.getD z.toNat default))) : ∃ e, (l.map f)[0 + z.toNat]? = some e ∧ K e := by
  rw [Nat.zero_add]; exact map_atI h k
/-- A row of one more. -/
theorem set_at {α : Type} {f : α → V} {L : List α} {i : Nat} {x : α} {v : V} {K : List V → Prop} (hv : v = f x) (k : K ((L.set i x).map f)) : ∀ es', es' = (L.map f).set (0 + ((i : Nat) : Int).toNat) v → K es' := by
  subst hv
  intro es' h
  rw [h, Nat.zero_add, Int.toNat_natCast, ← List.map_set]; exact k
theorem set_atI {α : Type} {f : α → V} {L : List α} {z : Int} {x : α} {v : V} {K : List V → Prop} (hv : v = f x) (k : K ((L.set z.toNat x).map f)) : ∀ es', es' = (L.map f).set (0 + z.toNat) v → K es' := by
  subst hv
  intro es' h
  rw [h, Nat.zero_add, ← List.map_set]; exact k
theorem app1 {α : Type} {f : α → V} {l : List α} {x : α} {v : V} {A : Prop} {K : Nat → List V → Prop} (h : A) (hv : v = f x) (k : K (l ++ [x]).length ((l ++ [x]).map f)) : A ∧ ∀ l' es', l' = l.length + [v].length → es' = ((l.map f).drop 0).take l.length ++ [v] → K l' es' := by
  subst hv
  refine ⟨h, fun l' es' h1 h2 => ?_⟩
  have e1 : l' = (l ++ [x]).length := by rw [h1]; simp
  have e2 : es' = (l ++ [x]).map f := by rw [h2, List.drop_zero, List.take_of_length_le (by simp), List.map_append]; rfl
  rw [e1, e2]; exact k
theorem appN {α : Type} {f : α → V} {m : List α} {A : Prop} {K : Nat → List V → Prop} (h : A) (k : K m.length (m.map f)) : A ∧ ∀ l' es', l' = 0 + (m.map f).length → es' = (([] : List V).drop 0).take 0 ++ m.map f → K l' es' := by
  refine ⟨h, fun l' es' h1 h2 => ?_⟩
  have e1 : l' = m.length := by rw [h1]; simp
  have e2 : es' = m.map f := by rw [h2]; simp
  rw [e1, e2]; exact k
theorem app0 {α : Type} {f : α → V} {x : α} {l : List α} {A : Prop} {K : Nat → List V → Prop} (h : A) (k : K (x :: l).length ((x :: l).map f)) : A ∧ ∀ l' es', l' = (f x :: l.map f).length → es' = f x :: l.map f → K l' es' := by
  refine ⟨h, fun l' es' h1 h2 => ?_⟩
  have e1 : l' = (x :: l).length := by rw [h1]; simp
  rw [e1, h2]; exact k
theorem appR {α : Type} {f : α → V} {l m : List α} {A : Prop} {K : Nat → List V → Prop} (h : A) (k : K (l ++ m).length ((l ++ m).map f)) : A ∧ ∀ l' es', l' = l.length + (m.map f).length → es' = ((l.map f).drop 0).take l.length ++ m.map f → K l' es' := by
  refine ⟨h, fun l' es' h1 h2 => ?_⟩
  have e1 : l' = (l ++ m).length := by rw [h1]; simp
  have e2 : es' = (l ++ m).map f := by rw [h2, List.drop_zero, List.take_of_length_le (by simp), List.map_append]
  rw [e1, e2]; exact k
/-- A cut of a row. -/
theorem cutN {α : Type} {f : α → V} {l : List α} {A : Prop} {x y : Nat} {K : List V → Prop} (a z : Nat) (h : A) (hx : x = a) (hy : y = z) (k : K (((l.drop a).take z).map f)) : A ∧ ∀ es', es' = ((l.map f).drop x).take y → K es' := by
  subst hx; subst hy
  exact ⟨h, fun es' e => by rw [e, ← List.map_drop, ← List.map_take]; exact k⟩
/-- A copy onto a row. -/
theorem copyR {α : Type} {f : α → V} {l m : List α} {A : Prop} {i len : Nat} {K : Nat → List V → Prop} (h : A) (k : K (Nat.min m.length len) ((l.take i ++ m.take (Nat.min m.length len) ++ l.drop (i + Nat.min m.length len)).map f)) : A ∧ ∀ n es', n = Nat.min (m.map f).length len → es' = (l.map f).take i ++ (m.map f).take n ++ (l.map f).drop (i + n) → K n es' := by
  refine ⟨h, fun n es' h1 h2 => ?_⟩
  rw [List.length_map] at h1
  subst h1
  rw [h2, ← List.map_take, ← List.map_take, ← List.map_drop, ← List.map_append, ← List.map_append]; exact k
/-- A part of a row that is looked at. -/
theorem part_at {α : Type} {f : α → V} {l : List α} {A : Prop} {x y : Nat} {K : List V → Prop} (h : A) (k : K (((l.drop x).take y).map f)) : A ∧ ∀ xs, xs = ((l.map f).drop x).take y → K xs :=
  ⟨h, fun xs e => by rw [e, ← List.map_drop, ← List.map_take]; exact k⟩
/-- A row that is looked at as a whole. -/
theorem all_at {α : Type} {f : α → V} {l : List α} {A : Prop} {K : List V → Prop} (h : A) (k : K (l.map f)) : A ∧ ∀ xs, xs = ((l.map f).drop 0).take l.length → K xs :=
  ⟨h, fun xs e => by rw [e, List.drop_zero, List.take_of_length_le (by simp)]; exact k⟩
/-- Rows that may change, lent one behind the other (the last one first). -/
def LendTo : List (Nat × List V) → List V → List V → Prop
  | [], a, b => a = b
  | (n, es) :: r, a, b => ∃ c, LendA (0, r.length) n es a c ∧ LendTo r c b
def objsOf : List (Nat × List V) → List Obj
  | [] => []
  | (n, es) :: r => objsOf r ++ [.arr true n es]
theorem objsOf_len : ∀ {r : List (Nat × List V)}, (objsOf r).length = r.length
  | [] => rfl
  | (n, es) :: r => by simp [objsOf, objsOf_len (r := r)]
theorem objsOf_ments : ∀ {r : List (Nat × List V)}, ∀ x ∈ objsOf r, x.ments = []
  | [], _, h => nomatch h
  | (n, es) :: r, x, h => by
    simp only [objsOf, List.mem_append, List.mem_singleton] at h
    rcases h with h | rfl
    · exact objsOf_ments x h
    · rfl
theorem noIsO_app : ∀ {a b : List Obj}, noIsO a = true → noIsO b = true → noIsO (a ++ b) = true
  | [], _, _, h => h
  | x :: a, b, h1, h2 => by
    simp only [noIsO, List.cons_append, Bool.and_eq_true] at h1 ⊢
    exact ⟨h1.1, noIsO_app h1.2 h2⟩
theorem AC.borrowS {P : Program} {f : FuncId} : ∀ {r : List (Nat × List V)} {args args' : List V} {K : V → List Obj → List Obj → Prop}, LendTo r args args' → noIsO (objsOf r) = true →
    AC P f args' [] (fun v o n => (v.noIs = true ∧ noIsO o = true ∧ noIsO n = true) ∧ K v (o ++ objsOf r) n) → AC P f args (objsOf r) K
  | [], args, args', K, hl, _, h => by
    obtain rfl : args = args' := hl
    exact AC.mono h fun v o n hv => by simpa [objsOf] using hv.2
  | (n, es) :: r, args, args', K, ⟨c, h1, h2⟩, hn, h => by
    have hn' : noIsO (objsOf r) = true := by
      have : ∀ {a b : List Obj}, noIsO (a ++ b) = true → noIsO a = true := by
        intro a b h
        induction a with
        | nil => rfl
        | cons x a ih => simp only [noIsO, List.cons_append, Bool.and_eq_true] at h ⊢; exact ⟨h.1, ih h.2⟩
      exact this hn
    refine AC.borrow (objs := objsOf r) (by rw [objsOf_len]; exact h1) (fun x hx => by rw [objsOf_ments x hx]; exact List.not_mem_nil) ?_
    refine AC.borrowS h2 hn' (AC.mono h fun v o m hv => ⟨hv.1, ⟨hv.1.1, noIsO_app hv.1.2.1 hn', hv.1.2.2⟩, ?_⟩)
    have := hv.2
    rwa [objsOf, ← List.append_assoc] at this
theorem anat {n : Nat} {K : Int → Prop} (k : K n) : ∀ r, r = ((n : Nat) : Int) → K r := fun _ hr => hr ▸ k
theorem lgOk {ops : Array Oper} {anc : List Nat} {a b : List Ent} {K : Prop} (h : logOk ops anc a b = true) (k : K) : logOk ops anc a b = true ∧ K := ⟨h, k⟩
theorem kpOk {KL : List Key} {s : St} {n : Nat} {P : Nat → Prop} (h : keepOk KL s = true) (k : ∃ m, m < n ∧ P m) : keepOk KL s = true ∧ ∃ m, m < n ∧ P m := ⟨h, k⟩
/-- A place of a row that nobody changes. -/
theorem ix_at {α : Type} {f : α → V} {l : List α} {i : Int} {a n : Nat} {K : Prop} (h0 : a = n) (h : 0 ≤ i ∧ i < l.length) (k : K) : (a = n ∧ 0 ≤ i ∧ i < (((l.map f).length : Nat) : Int)) ∧ K := ⟨⟨h0, h.1, by rw [List.length_map]; exact h.2⟩, k⟩
theorem andOk {A K : Prop} (h : A) (k : K) : A ∧ K := ⟨h, k⟩
theorem nzOk {a b : Nat} {K : Prop} (h : a ≠ b) (k : K) : a ≠ b ∧ K := ⟨h, k⟩
theorem dvOk {a b : IntKind} {x : Int} {K : Prop} (h : a = b) (h2 : x ≠ 0) (k : K) : (a = b ∧ x ≠ 0) ∧ K := ⟨⟨h, h2⟩, k⟩
/-- A rest, of which only the range is kept. -/
theorem aremB {x y : Int} {K : Int → Prop} (h : 0 ≤ x) (hy : 0 < y) (k : ∀ r, 0 ≤ r → r < y → K r) : ∀ r, r = x.tmod y → K r := by
  intro r hr
  rw [hr, Int.tmod_eq_emod_of_nonneg h]
  exact k _ (Int.emod_nonneg _ (by omega)) (Int.emod_lt_of_pos _ hy)
theorem szOk {a b : Nat} {K : Prop} (h : a = b) (k : K) : a = b ∧ K := ⟨h, k⟩
end Go.Eng

/- A machine of values for the program's code, part 29: a new row that nobody will change any more is returned as such. -/
namespace Go.Eng
open Go.RowKit

/-- A store without one object. -/
def Store.del (ob : Store) (k : Key) : Store := fun l => if l = k then none else ob l
def delPl (pl : Places) (k : Key) : Places := fun l => if l = k then none else pl l

theorem WR.frz {F : Cells} {pl : Places} {ob : Store} {w : World} (hw : WR F pl ob w) {k : Key} {n : Nat} {es : List V} {p : Pl} (hk : ob k = some (.arr true n es)) (hp : pl k = some p) (hm : ∀ l x, l ≠ k → ob l = some x → k ∉ x.ments) :
    WR (fun b o => F b o ∨ lentF p n es.length b o) (delPl pl k) (ob.del k) w := by
  obtain ⟨p', hp', hro⟩ := hw.rep k _ hk
  rw [hp] at hp'; cases hp'
  have hro' := hro
  obtain ⟨r1, r2, r3, r4, r5⟩ := hro'
  have isS : ∀ {b o}, p.has b o → (memOf w b o).isSome := fun {b o} hh => by obtain ⟨rfl, _⟩ := id hh; exact (r4 o hh).1
  have hob : ∀ l x, ob.del k l = some x → l ≠ k ∧ ob l = some x := fun l x hx => by
    unfold Store.del at hx
    split at hx
    · cases hx
    · exact ⟨by assumption, hx⟩
  have hpl : ∀ l q, l ≠ k → pl l = some q → delPl pl k l = some q := fun l q hne hq => by unfold delPl; rw [if_neg hne]; exact hq
  have hplr : ∀ l q, delPl pl k l = some q → pl l = some q := fun l q hq => by
    unfold delPl at hq
    split at hq
    · cases hq
    · exact hq
  refine ⟨fun l x hx => ?_, fun l hx => ?_, fun l l' x y q r b o hkl hx hy h1 h2 hq hr' hb => ?_, fun b o hf => ?_⟩
  · obtain ⟨hne, hx'⟩ := hob l x hx
    obtain ⟨q, hq, hr⟩ := hw.rep l x hx'
    refine ⟨q, hpl _ _ hne hq, ?_⟩
    cases x with
    | dead => trivial
    | arr kf n' es' =>
      obtain ⟨s1, s2, s3, s4, s5⟩ := hr
      refine ⟨s1, s2, s3, fun o ho => ⟨(s4 o ho).1, (s4 o ho).2.1, ?_⟩, fun j e he => ?_⟩
      · rintro (hf | hf)
        · exact (s4 o ho).2.2 hf
        · exact hw.dis l k _ _ q p _ _ hne hx' hk rfl rfl hq hp ho (lent_has hro hf)
      · obtain ⟨t1, t2⟩ := s5 j e he
        refine ⟨t1, fun c x hx2 => ?_⟩
        obtain ⟨u1, cv, u2, u3⟩ := t2 c x hx2
        refine ⟨u1, cv, u2, ?_⟩
        have u4 : RepV (fun b o => F b o ∨ lentF p n es.length b o) (memOf w) (Obj.plc kf pl) x cv := u3.mono (fun b o h => ⟨.inl h, rfl⟩) (fun _ _ h => h)
        refine u4.places fun l' q' hl hq' => ?_
        cases kf with
        | true => simpa [Obj.plc] using hq'
        | false =>
          simp only [Obj.plc] at hq' ⊢
          refine hpl l' q' ?_ hq'
          rintro rfl
          refine hm l _ hne hx' ?_
          simp only [Obj.ments]
          refine ments_mem (List.mem_of_getElem? he) _ ?_
          cases e with
          | agg cs => simp only [V.ments]; exact ments_mem (List.mem_of_getElem? (by simpa [V.cells] using hx2)) _ hl
          | _ =>
            simp only [V.cells, List.getElem?_singleton] at hx2
            split at hx2 <;> cases hx2
            exact hl
    | froz n' es' =>
      obtain ⟨s1, s2, s3, s5⟩ := hr
      refine ⟨s1, s2, s3, fun j e he => ⟨⟨(s5 j e he).1.1, fun c x hx2 => ?_⟩, fun c hc => .inl ((s5 j e he).2 c hc)⟩⟩
      obtain ⟨u1, cv, u2, u3⟩ := (s5 j e he).1.2 c x hx2
      exact ⟨u1, cv, u2, u3.mono (fun b o h => ⟨.inl h, rfl⟩) (fun _ _ h => h)⟩
  · unfold delPl
    split
    · rfl
    · rename_i hne
      refine hw.non l ?_
      unfold Store.del at hx
      rwa [if_neg hne] at hx
  · exact hw.dis l l' x y q r b o hkl (hob l x hx).2 (hob l' y hy).2 h1 h2 (hplr _ _ hq) (hplr _ _ hr') hb
  · rcases hf with hf | hf
    · exact hw.fex b o hf
    · exact isS (lent_has hro hf)

/-- How what comes back looks once object k is one that nobody changes. -/
inductive LendR (k : Key) (n : Nat) (es : List V) : V → V → Prop
  | one {x y} : Lend0 k n es x y → LendR k n es x y
  | agg {cs ds} : LendL k n es cs ds → LendR k n es (.agg cs) (.agg ds)
  | tup {xs ys} : LendA k n es xs ys → LendR k n es (.tup xs) (.tup ys)

theorem LendR.rep {F : Cells} {m : Mem} {fz : Cells} {pl : Places} {p : Pl} {n : Nat} {es : List V} {k : Key} (hr : RepO F m fz pl p (.arr true n es)) (hk : pl k = some p) {pl1 : Places} (h1 : ∀ l q, l ≠ k → pl l = some q → pl1 l = some q) {x y : V} {cv : Value} (hl : LendR k n es x y) (h : RepV F m pl x cv) :
    RepV (fun b o => F b o ∨ lentF p n es.length b o) m pl1 y cv := by
  cases hl with
  | one h0 => exact lend0_rep hr hk h1 h0 h
  | agg h0 =>
    cases h with
    | agg ca hca hcr =>
      refine .agg ca (by rw [hca, h0.get.1]) (fun i y hi hy => ?_)
      obtain ⟨x, hx, h2⟩ := h0.get.2 i y hy
      exact lend0_rep hr hk h1 h2 (hcr i x hi hx)
  | tup h0 =>
    cases h with
    | tup ca hca hcr =>
      refine .tup ca (by rw [hca, h0.get.1]) (fun i y hi hy => ?_)
      obtain ⟨x, hx, h2⟩ := h0.get.2 i y hy
      have hrx := hcr i x hi hx
      rcases h2 with h2 | ⟨cs, ds, rfl, rfl, h2⟩
      · exact lend0_rep hr hk h1 h2 hrx
      · generalize ca[i] = cv0 at hrx ⊢
        cases hrx with
        | agg cb hcb hcr2 =>
          refine .agg cb (by rw [hcb, h2.get.1]) (fun i2 y2 hi2 hy2 => ?_)
          obtain ⟨x2, hx2, h3⟩ := h2.get.2 i2 y2 hy2
          exact lend0_rep hr hk h1 h3 (hcr2 i2 x2 hi2 hx2)

/-- The last new row is returned as one that nobody changes. -/
theorem AC.frzO {P : Program} {f : FuncId} {args : List V} {objs : List Obj} {K : V → List Obj → List Obj → Prop}
    (h : AC P f args objs fun v objs' news => (∃ v' news' n es, news = news' ++ [.arr true n es] ∧ LendR (1, news'.length) n es v v' ∧ (∀ x ∈ objs' ++ news', (1, news'.length) ∉ x.ments) ∧ K v' objs' news') ∨ K v objs' news) : AC P f args objs K := by
  refine fun F pl w cargs h1 h2 h3 => (h F pl w cargs h1 h2 h3).mono fun cv w' ⟨v, objs', news, F', pl', hor, hb⟩ => ?_
  rcases hor with hor | hor
  rotate_left
  · exact ⟨v, objs', news, F', pl', hor, hb⟩
  obtain ⟨v', news', n, es, hn, hl, hm, hK⟩ := hor
  subst hn
  have hat : resOb objs' (news' ++ [.arr true n es]) (1, news'.length) = some (.arr true n es) := by simp [resOb]
  have hdel : (Store.del (resOb objs' (news' ++ [.arr true n es])) (1, news'.length)) = resOb objs' news' := by
    funext l
    unfold Store.del
    split
    · rename_i e; subst e; simp [resOb]
    · rename_i e
      unfold resOb
      split
      · rfl
      · split
        · rename_i e1
          rw [List.getElem?_append]
          split
          · rfl
          · rename_i h5
            have : l.2 ≠ news'.length := fun e2 => e (Prod.ext e1 e2)
            rw [List.getElem?_eq_none (by omega : news'.length ≤ l.2), List.getElem?_eq_none]
            simp only [List.length_singleton]; omega
        · rfl
  obtain ⟨p, hp, hro⟩ := hb.wr.rep _ _ hat
  have hsub : ∀ l x, resOb objs' news' l = some x → l ≠ (1, news'.length) ∧ resOb objs' (news' ++ [.arr true n es]) l = some x := fun l x hx => by
    rw [← hdel] at hx
    unfold Store.del at hx
    split at hx
    · cases hx
    · exact ⟨by assumption, hx⟩
  have hmem : ∀ l x, l ≠ (1, news'.length) → resOb objs' (news' ++ [.arr true n es]) l = some x → (1, news'.length) ∉ x.ments := fun l x hne hx => by
    have hx' : resOb objs' news' l = some x := by
      rw [← hdel]; unfold Store.del; rw [if_neg hne]; exact hx
    refine hm x ?_
    unfold resOb at hx'
    split at hx'
    · exact List.mem_append_left _ (List.mem_of_getElem? hx')
    · split at hx'
      · exact List.mem_append_right _ (List.mem_of_getElem? hx')
      · cases hx'
  have hw2 := hb.wr.frz hat hp hmem
  rw [hdel] at hw2
  have hplr : ∀ l q, delPl pl' (1, news'.length) l = some q → pl' l = some q := fun l q hq => by
    unfold delPl at hq
    split at hq
    · cases hq
    · exact hq
  refine ⟨v', objs', news', _, _, hK, ⟨hl.rep hro hp (fun l q hne hq => by unfold delPl; rw [if_neg hne]; exact hq) hb.rep, hw2, hb.len, fun j hj => ?_, fun b o hf => .inl (hb.fF b o hf), fun b o hf => ?_, fun l x q b o hx hlx hq hh => ?_, hb.same⟩⟩
  · unfold delPl
    rw [if_neg (by intro e; cases e)]
    exact hb.plk j hj
  · rcases hf with hf | hf
    · exact hb.fX b o hf
    · exact .inr (hb.own _ _ p b o hat rfl hp (lent_has hro hf))
  · exact hb.own l x q b o (hsub l x hx).2 hlx (hplr _ _ hq) hh
theorem AC.frz {P : Program} {f : FuncId} {args : List V} {objs : List Obj} {K : V → List Obj → List Obj → Prop}
    (h : AC P f args objs fun v objs' news => ∃ v' news' n es, news = news' ++ [.arr true n es] ∧ LendR (1, news'.length) n es v v' ∧ (∀ x ∈ objs' ++ news', (1, news'.length) ∉ x.ments) ∧ K v' objs' news') : AC P f args objs K :=
  AC.frzO (AC.mono h fun _ _ _ h => .inl h)
/-- One new row, which comes back alone. -/
theorem frz1 {α : Type} {f : α → V} {l : List α} {K : V → List Obj → List Obj → Prop} {objs : List Obj} {n : Nat} (hm : ∀ x ∈ objs, (1, 0) ∉ x.ments) (k : K (.is n (l.map f)) objs []) :
    ∃ v' news' n' es, [Obj.arr true n (l.map f)] = news' ++ [.arr true n' es] ∧ LendR (1, news'.length) n' es (.ls (1, 0) n 0 l.length) v' ∧ (∀ x ∈ objs ++ news', (1, news'.length) ∉ x.ments) ∧ K v' objs news' :=
  ⟨_, [], n, _, rfl, .one (.all (by simp)), by simpa using hm, k⟩
end Go.Eng

/- A machine of values for the program's code, part 30: one of a few numbers, by a drawn place. -/
namespace Go.Eng
open Go.RowKit
theorem pickI2 {es : List V} {z : Int} {a0 a1 : Int} {K : V → Prop} (he : es = [.lit (.int .i64 a0), .lit (.int .i64 a1)]) (h : 0 ≤ z ∧ z < 2) (k : ∀ x, (x = a0 ∨ x = a1) → K (.lit (.int .i64 x))) : ∃ e, es[0 + z.toNat]? = some e ∧ K e := by
  subst he
  rw [Nat.zero_add]
  have hz : z = 0 ∨ z = 1 := by omega
  rcases hz with rfl | rfl
  · exact ⟨_, rfl, k _ (.inl rfl)⟩
  · exact ⟨_, rfl, k _ (.inr (rfl))⟩
theorem pickI3 {es : List V} {z : Int} {a0 a1 a2 : Int} {K : V → Prop} (he : es = [.lit (.int .i64 a0), .lit (.int .i64 a1), .lit (.int .i64 a2)]) (h : 0 ≤ z ∧ z < 3) (k : ∀ x, (x = a0 ∨ x = a1 ∨ x = a2) → K (.lit (.int .i64 x))) : ∃ e, es[0 + z.toNat]? = some e ∧ K e := by
  subst he
  rw [Nat.zero_add]
  have hz : z = 0 ∨ z = 1 ∨ z = 2 := by omega
  rcases hz with rfl | rfl | rfl
  · exact ⟨_, rfl, k _ (.inl rfl)⟩
  · exact ⟨_, rfl, k _ (.inr (.inl rfl))⟩
  · exact ⟨_, rfl, k _ (.inr (.inr (rfl)))⟩
theorem pickI4 {es : List V} {z : Int} {a0 a1 a2 a3 : Int} {K : V → Prop} (he : es = [.lit (.int .i64 a0), .lit (.int .i64 a1), .lit (.int .i64 a2), .lit (.int .i64 a3)]) (h : 0 ≤ z ∧ z < 4) (k : ∀ x, (x = a0 ∨ x = a1 ∨ x = a2 ∨ x = a3) → K (.lit (.int .i64 x))) : ∃ e, es[0 + z.toNat]? = some e ∧ K e := by
  subst he
  rw [Nat.zero_add]
  have hz : z = 0 ∨ z = 1 ∨ z = 2 ∨ z = 3 := by omega
  rcases hz with rfl | rfl | rfl | rfl
  · exact ⟨_, rfl, k _ (.inl rfl)⟩
  · exact ⟨_, rfl, k _ (.inr (.inl rfl))⟩
  · exact ⟨_, rfl, k _ (.inr (.inr (.inl rfl)))⟩
  · exact ⟨_, rfl, k _ (.inr (.inr (.inr (rfl))))⟩
theorem pickI5 {es : List V} {z : Int} {a0 a1 a2 a3 a4 : Int} {K : V → Prop} (he : es = [.lit (.int .i64 a0), .lit (.int .i64 a1), .lit (.int .i64 a2), .lit (.int .i64 a3), .lit (.int .i64 a4)]) (h : 0 ≤ z ∧ z < 5) (k : ∀ x, (x = a0 ∨ x = a1 ∨ x = a2 ∨ x = a3 ∨ x = a4) → K (.lit (.int .i64 x))) : ∃ e, es[0 + z.toNat]? = some e ∧ K e := by
  subst he
  rw [Nat.zero_add]
  have hz : z = 0 ∨ z = 1 ∨ z = 2 ∨ z = 3 ∨ z = 4 := by omega
  rcases hz with rfl | rfl | rfl | rfl | rfl
  · exact ⟨_, rfl, k _ (.inl rfl)⟩
  · exact ⟨_, rfl, k _ (.inr (.inl rfl))⟩
  · exact ⟨_, rfl, k _ (.inr (.inr (.inl rfl)))⟩
  · exact ⟨_, rfl, k _ (.inr (.inr (.inr (.inl rfl))))⟩
  · exact ⟨_, rfl, k _ (.inr (.inr (.inr (.inr (rfl)))))⟩
theorem pickI8 {es : List V} {z : Int} {a0 a1 a2 a3 a4 a5 a6 a7 : Int} {K : V → Prop} (he : es = [.lit (.int .i64 a0), .lit (.int .i64 a1), .lit (.int .i64 a2), .lit (.int .i64 a3), .lit (.int .i64 a4), .lit (.int .i64 a5), .lit (.int .i64 a6), .lit (.int .i64 a7)]) (h : 0 ≤ z ∧ z < 8) (k : ∀ x, (x = a0 ∨ x = a1 ∨ x = a2 ∨ x = a3 ∨ x = a4 ∨ x = a5 ∨ x = a6 ∨ x = a7) → K (.lit (.int .i64 x))) : ∃ e, es[0 + z.toNat]? = some e ∧ K e := by
  subst he
  rw [Nat.zero_add]
  have hz : z = 0 ∨ z = 1 ∨ z = 2 ∨ z = 3 ∨ z = 4 ∨ z = 5 ∨ z = 6 ∨ z = 7 := by omega
  rcases hz with rfl | rfl | rfl | rfl | rfl | rfl | rfl | rfl
  · exact ⟨_, rfl, k _ (.inl rfl)⟩
  · exact ⟨_, rfl, k _ (.inr (.inl rfl))⟩
  · exact ⟨_, rfl, k _ (.inr (.inr (.inl rfl)))⟩
  · exact ⟨_, rfl, k _ (.inr (.inr (.inr (.inl rfl))))⟩
  · exact ⟨_, rfl, k _ (.inr (.inr (.inr (.inr (.inl rfl)))))⟩
  · exact ⟨_, rfl, k _ (.inr (.inr (.inr (.inr (.inr (.inl rfl))))))⟩
  · exact ⟨_, rfl, k _ (.inr (.inr (.inr (.inr (.inr (.inr (.inl rfl)))))))⟩
  · exact ⟨_, rfl, k _ (.inr (.inr (.inr (.inr (.inr (.inr (.inr (rfl))))))))⟩
/-- A quotient, a product, of which only the range is kept. -/
theorem aquoB {x y : Int} {K : Int → Prop} (h : 0 ≤ x ∧ x ≤ 9223372036854775807) (hy : 0 < y) (k : ∀ r, 0 ≤ r → r ≤ x → K r) : ∀ r, r = IntKind.i64.wrap (x.tdiv y) → K r :=
  aquo h hy (k _ (Int.ediv_nonneg h.1 (Int.le_of_lt hy)) (Int.ediv_le_self y h.1))
theorem amulB {x y : Int} {K : Int → Prop} (hx : 0 ≤ x ∧ x ≤ 1000) (hy : 0 ≤ y ∧ y ≤ 1000) (k : ∀ r, 0 ≤ r → r ≤ 1000000 → K r) : ∀ r, r = IntKind.i64.wrap (x * y) → K r := by
  have h1 := Int.mul_nonneg hx.1 hy.1
  have h2 : x * y ≤ 1000 * 1000 := Int.mul_le_mul hx.2 hy.2 hy.1 (by decide)
  exact a64 (by omega) (k _ h1 (by omega))
/-- A loop is gone through round by round. -/
theorem kpR {KL : List Key} {s : St} {K : Prop} (h : keepOk KL s = true) (k : K) : keepOk KL s = true ∧ K := ⟨h, k⟩
theorem exR {B : St → (Ex → St → Prop) → Prop} {sw : Store → List (Key × Key)} {L : List Nat} {KL : List Key} {Q : Ex → St → Prop} {st : St} (n : Nat) (h : rounds B sw L KL Q n st) : ∃ n, rounds B sw L KL Q n st := ⟨n, h⟩
/-- The first element of a row. -/
theorem app01 {α : Type} {f : α → V} {x : α} {v : V} {A : Prop} {K : Nat → List V → Prop} (h : A) (hv : v = f x) (k : K [x].length ([x].map f)) : A ∧ ∀ l' es', l' = [v].length → es' = [v] → K l' es' := by
  subst hv
  exact ⟨h, fun l' es' h1 h2 => by rw [h1, h2]; exact k⟩
end Go.Eng
