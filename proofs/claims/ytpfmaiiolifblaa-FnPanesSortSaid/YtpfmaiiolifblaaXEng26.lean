/- A machine of values for the program's code, part 26: a row that may change is lent to a call as a row that nobody changes. -/
import Derived.Test.YtpfmaiiolifblaaXEng24
namespace Go.Eng
open Go.RowKit

mutual
/-- Names no memory that nobody changes. -/
def V.noIs : V → Bool
  | .ip .. => false
  | .is .. => false
  | .fn _ cs => noIsL cs
  | .agg cs => noIsL cs
  | .tup cs => noIsL cs
  | _ => true
def noIsL : List V → Bool
  | [] => true
  | v :: vs => v.noIs && noIsL vs
end

theorem noIs_get : ∀ {vs : List V}, noIsL vs = true → ∀ (i : Nat) x, vs[i]? = some x → x.noIs = true
  | v :: vs, h, i, x, hx => by
    simp only [noIsL, Bool.and_eq_true] at h
    cases i with
    | zero => simp at hx; subst hx; exact h.1
    | succ i => exact noIs_get h.2 i x (by simpa using hx)

theorem noIsL_of : ∀ {vs : List V}, (∀ x ∈ vs, x.noIs = true) → noIsL vs = true
  | [], _ => rfl
  | v :: vs, h => by simp only [noIsL, Bool.and_eq_true]; exact ⟨h v (by simp), noIsL_of fun x hx => h x (by simp [hx])⟩

theorem RepV.noF {F : Cells} {m : Mem} {pl : Places} {v : V} {cv : Value} (h : RepV F m pl v cv) :
    ∀ {F' : Cells} {m' : Mem} {pl' : Places}, v.noIs = true → (∀ k p, pl k = some p → pl' k = some p) → RepV F' m' pl' v cv := by
  induction h with
  | un => intro _ _ _ _ _; exact .un
  | lit => intro _ _ _ _ _; exact .lit
  | e0 => intro _ _ _ _ _; exact .e0
  | e0n => intro _ _ _ _ _; exact .e0n
  | isn => intro _ _ _ h _; simp [V.noIs] at h
  | lp hp h0 => intro _ _ _ _ hpl; exact .lp (hpl _ _ hp) h0
  | ls hp h0 h1 h2 h3 => intro _ _ _ _ hpl; exact .ls (hpl _ _ hp) h0 h1 h2 h3
  | ip => intro _ _ _ h _; simp [V.noIs] at h
  | is => intro _ _ _ h _; simp [V.noIs] at h
  | fn cs h1 _ ih => intro _ _ _ h hpl; exact .fn cs h1 (fun i x hi hx => ih i x hi hx (noIs_get (by simpa [V.noIs] using h) i x hx) hpl)
  | agg cs h1 _ ih => intro _ _ _ h hpl; exact .agg cs h1 (fun i x hi hx => ih i x hi hx (noIs_get (by simpa [V.noIs] using h) i x hx) hpl)
  | tup cs h1 _ ih => intro _ _ _ h hpl; exact .tup cs h1 (fun i x hi hx => ih i x hi hx (noIs_get (by simpa [V.noIs] using h) i x hx) hpl)

theorem noIs_cells {e : V} (h : e.noIs = true) (c : Nat) (x : V) (hx : e.cells[c]? = some x) : x.noIs = true := by
  cases e with
  | agg cs => exact noIs_get (vs := cs) (by simpa [V.noIs] using h) c x hx
  | _ => simp only [V.cells, List.getElem?_singleton] at hx; split at hx <;> cases hx; exact h

def Obj.noIs : Obj → Bool
  | .dead => true
  | .arr _ _ es => noIsL es
  | .froz _ _ => false

def noIsO : List Obj → Bool
  | [] => true
  | x :: xs => x.noIs && noIsO xs

theorem noIsO_get : ∀ {vs : List Obj}, noIsO vs = true → ∀ (i : Nat) x, vs[i]? = some x → x.noIs = true
  | v :: vs, h, i, x, hx => by
    simp only [noIsO, Bool.and_eq_true] at h
    cases i with
    | zero => simp at hx; subst hx; exact h.1
    | succ i => exact noIsO_get h.2 i x (by simpa using hx)

/-- How a value looks behind the lending of object j: a row of elements es. -/
inductive Lend0 (k : Key) (n : Nat) (es : List V) : V → V → Prop
  | same {v} : k ∉ v.ments → Lend0 k n es v v
  | ls {i len es'} : i + len ≤ es.length → es' = (es.drop i).take len → Lend0 k n es (.ls k n i len) (.is n es')
  | lp {i off} : Lend0 k n es (.lp k n i off) (.ip n es i off)

inductive LendL (k : Key) (n : Nat) (es : List V) : List V → List V → Prop
  | nil : LendL k n es [] []
  | cons {x y xs ys} : Lend0 k n es x y → LendL k n es xs ys → LendL k n es (x :: xs) (y :: ys)

inductive LendA (k : Key) (n : Nat) (es : List V) : List V → List V → Prop
  | nil : LendA k n es [] []
  | cons {x y xs ys} : Lend0 k n es x y → LendA k n es xs ys → LendA k n es (x :: xs) (y :: ys)
  | agg {cs ds xs ys} : LendL k n es cs ds → LendA k n es xs ys → LendA k n es (.agg cs :: xs) (.agg ds :: ys)

theorem Lend0.all {k : Key} {n : Nat} {es : List V} {len : Nat} (h : len = es.length) : Lend0 k n es (.ls k n 0 len) (.is n es) :=
  .ls (by omega) (by subst h; simp)

theorem LendL.get {k : Key} {n : Nat} {es xs ys : List V} (h : LendL k n es xs ys) : xs.length = ys.length ∧ ∀ (i : Nat) y, ys[i]? = some y → ∃ x, xs[i]? = some x ∧ Lend0 k n es x y := by
  induction h with
  | nil => exact ⟨rfl, fun i y h => by simp at h⟩
  | cons h0 _ ih =>
    refine ⟨by simp [ih.1], fun i y h => ?_⟩
    cases i with
    | zero => simp at h; subst h; exact ⟨_, rfl, h0⟩
    | succ i => simpa using ih.2 i y (by simpa using h)

theorem LendA.get {k : Key} {n : Nat} {es xs ys : List V} (h : LendA k n es xs ys) : xs.length = ys.length ∧ ∀ (i : Nat) y, ys[i]? = some y → ∃ x, xs[i]? = some x ∧ (Lend0 k n es x y ∨ ∃ cs ds, x = .agg cs ∧ y = .agg ds ∧ LendL k n es cs ds) := by
  induction h with
  | nil => exact ⟨rfl, fun i y h => by simp at h⟩
  | cons h0 _ ih =>
    refine ⟨by simp [ih.1], fun i y h => ?_⟩
    cases i with
    | zero => simp at h; subst h; exact ⟨_, rfl, .inl h0⟩
    | succ i => simpa using ih.2 i y (by simpa using h)
  | agg h0 _ ih =>
    refine ⟨by simp [ih.1], fun i y h => ?_⟩
    cases i with
    | zero => simp at h; subst h; exact ⟨_, rfl, .inr ⟨_, _, rfl, rfl, h0⟩⟩
    | succ i => simpa using ih.2 i y (by simpa using h)

/-- The cells of a lent row. -/
def lentF (p : Pl) (n len : Nat) : Cells := fun b o => b = p.b ∧ ∃ j c, j < len ∧ c < n ∧ o = p.base + j * n + c

section
variable {F : Cells} {m : Mem} {fz : Cells} {pl : Places} {p : Pl} {n : Nat} {es : List V} {k : Key}

theorem lent_has (hr : RepO F m fz pl p (.arr true n es)) {b o : Nat} (h : lentF p n es.length b o) : p.has b o := by
  obtain ⟨h1, h2, h3, -, -⟩ := hr
  obtain ⟨rfl, j, c, hj, hc, rfl⟩ := h
  refine ⟨rfl, by omega, ?_⟩
  rw [h1]
  have : (j + 1) * n ≤ p.C * n := Nat.mul_le_mul_right n (by omega)
  rw [Nat.add_mul] at this
  omega

theorem lend0_rep (hr : RepO F m fz pl p (.arr true n es)) (hk : pl k = some p) {pl1 : Places} (h1 : ∀ l q, l ≠ k → pl l = some q → pl1 l = some q) {x y : V} {cv : Value} (hl : Lend0 k n es x y) (h : RepV F m pl x cv) :
    RepV (fun b o => F b o ∨ lentF p n es.length b o) m pl1 y cv := by
  obtain ⟨r1, r2, r3, r4, r5⟩ := hr
  have up : ∀ {v cv}, RepV F m noPl v cv → RepV (fun b o => F b o ∨ lentF p n es.length b o) m noPl v cv := fun h => h.mono (fun b o h => ⟨.inl h, rfl⟩) (fun _ _ h => h)
  have cellsOk : ∀ (j : Nat) e, es[j]? = some e → e.cells.length = n := fun j e he => (r5 j e he).1
  have cf : ∀ (j : Nat) e (c : Nat) x, es[j]? = some e → e.cells[c]? = some x → scal x = true ∧ lentF p n es.length p.b (p.base + j * n + c) ∧ m p.b (p.base + j * n + c) = some ((m p.b (p.base + j * n + c)).getD undef) ∧ RepV (fun b o => F b o ∨ lentF p n es.length b o) m noPl x ((m p.b (p.base + j * n + c)).getD undef) := by
    intro j e c x he hx
    obtain ⟨q1, q2⟩ := r5 j e he
    obtain ⟨q3, cv, q4, q5⟩ := q2 c x hx
    have hj := (List.getElem?_eq_some_iff.1 he).1
    have hc : c < n := by have := (List.getElem?_eq_some_iff.1 hx).1; omega
    refine ⟨q3, ⟨rfl, j, c, hj, hc, rfl⟩, ?_, ?_⟩
    · rw [q4]; rfl
    · rw [q4]; exact up (by simpa [Obj.plc] using q5)
  cases hl with
  | same hm => exact (h.mono (fun b o h => ⟨.inl h, rfl⟩) (fun _ _ h => h)).places (fun l q hl hq => h1 l q (fun e => hm (e ▸ hl)) hq)
  | @ls i len es' hi he =>
    subst he
    cases h with
    | @ls _ _ _ _ _ q a cap hq g0 g1 g2 g3 =>
      rw [hk] at hq; cases hq
      have hlen : ((es.drop i).take len).length = len := by simp; omega
      have key := RepV.is (F := fun b o => F b o ∨ lentF p n es.length b o) (m := m) (pl := pl1) (es := (es.drop i).take len) (a := a) (cap := cap) (n := n) (fun j c => (m p.b (p.base + (i + j) * n + c)).getD undef) (by omega)
        (fun hne => by
          have : len ≠ 0 := by intro e; subst e; simp at hne
          rw [g3 (by omega)])
        (fun j e he => by
          rw [List.getElem?_take] at he; split at he <;> try cases he
          rw [List.getElem?_drop] at he; exact cellsOk _ e he)
        (fun j e c x he hx => by
          rw [List.getElem?_take] at he; split at he <;> try cases he
          rename_i hjl
          rw [List.getElem?_drop] at he
          obtain ⟨q1, q2, q3, q4⟩ := cf _ e c x he hx
          have ha := g3 (by omega)
          subst ha
          have e1 : p.base + i * n + j * n + c = p.base + (i + j) * n + c := by rw [Nat.add_mul]; omega
          simp only [e1]
          exact ⟨q1, .inr q2, q3⟩)
        (fun j e c x he hx => by
          rw [List.getElem?_take] at he; split at he <;> try cases he
          rw [List.getElem?_drop] at he
          exact (cf _ e c x he hx).2.2.2)
      rw [hlen] at key
      exact key
  | lp =>
    cases h with
    | lp hq g0 =>
      rw [hk] at hq; cases hq
      exact .ip (fun j c => (m p.b (p.base + j * n + c)).getD undef) cellsOk
        (fun j e c x he hx => by obtain ⟨q1, q2, q3, q4⟩ := cf j e c x he hx; exact ⟨q1, .inr q2, q3⟩)
        (fun j e c x he hx => (cf j e c x he hx).2.2.2)
end

theorem argOb_app {objs : List Obj} {x : Obj} {k : Key} (h : k ≠ (0, objs.length)) : argOb (objs ++ [x]) k = argOb objs k := by
  unfold argOb
  split
  · rename_i e
    rw [List.getElem?_append]
    split
    · rfl
    · rename_i h2
      rw [List.getElem?_eq_none (by omega : objs.length ≤ k.2)]
      rw [List.getElem?_eq_none]
      simp only [List.length_singleton]
      have : k.2 ≠ objs.length := fun e2 => h (Prod.ext e e2)
      omega
  · rfl

theorem argOb_at {objs : List Obj} {x : Obj} : argOb (objs ++ [x]) (0, objs.length) = some x := by
  simp [argOb]

/-- A row that may change is lent to a call that takes it as a row that nobody changes; behind the call it is what it was. -/
theorem AC.borrow {P : Program} {f : FuncId} {args args' : List V} {objs : List Obj} {n : Nat} {es : List V} {K : V → List Obj → List Obj → Prop}
    (hl : LendA (0, objs.length) n es args args') (hm : ∀ x ∈ objs, (0, objs.length) ∉ x.ments)
    (h : AC P f args' objs fun v objs' news => (v.noIs = true ∧ noIsO objs' = true ∧ noIsO news = true) ∧ K v (objs' ++ [.arr true n es]) news) :
    AC P f args (objs ++ [.arr true n es]) K := by
  intro F pl w cargs hw hsz hrep
  obtain ⟨p, hp, hro⟩ := hw.rep (0, objs.length) _ argOb_at
  have hro' := hro
  obtain ⟨r1, r2, r3, r4, r5⟩ := hro'
  let F1 : Cells := fun b o => F b o ∨ lentF p n es.length b o
  let pl1 : Places := fun k => if k = (0, objs.length) then none else pl k
  have hpl1 : ∀ l q, l ≠ (0, objs.length) → pl l = some q → pl1 l = some q := fun l q hne hq => by simp only [pl1]; rw [if_neg hne]; exact hq
  have isS : ∀ {b o}, p.has b o → (memOf w b o).isSome ∧ ¬ frozOf w b o ∧ ¬ F b o := fun {b o} hh => by obtain ⟨rfl, _⟩ := id hh; exact r4 o hh
  have hlt : ∀ {b o}, p.has b o → b < w.heap.size := fun hh => memOf_lt (isS hh).1
  have hob : ∀ k x, argOb objs k = some x → k ≠ (0, objs.length) ∧ argOb (objs ++ [.arr true n es]) k = some x := fun k x hx => by
    have hne : k ≠ (0, objs.length) := by
      rintro rfl; simp [argOb] at hx
    exact ⟨hne, by rw [argOb_app hne]; exact hx⟩
  have hw1 : WR F1 pl1 (argOb objs) w := by
    refine ⟨fun k x hx => ?_, fun k hx => ?_, fun k l x y q r b o hkl hx hy h1 h2 hq hr' hb => ?_, fun b o hf => ?_⟩
    · obtain ⟨hne, hx'⟩ := hob k x hx
      obtain ⟨q, hq, hr⟩ := hw.rep k x hx'
      refine ⟨q, hpl1 _ _ hne hq, ?_⟩
      cases x with
      | dead => trivial
      | arr kf n' es' =>
        obtain ⟨s1, s2, s3, s4, s5⟩ := hr
        refine ⟨s1, s2, s3, fun o ho => ⟨(s4 o ho).1, (s4 o ho).2.1, ?_⟩, fun j e he => ?_⟩
        · rintro (hf | hf)
          · exact (s4 o ho).2.2 hf
          · exact hw.dis k (0, objs.length) _ _ q p _ _ hne hx' argOb_at rfl rfl hq hp ho (lent_has hro hf)
        · obtain ⟨t1, t2⟩ := s5 j e he
          refine ⟨t1, fun c x hx2 => ?_⟩
          obtain ⟨u1, cv, u2, u3⟩ := t2 c x hx2
          refine ⟨u1, cv, u2, ?_⟩
          have u4 : RepV F1 (memOf w) (Obj.plc kf pl) x cv := u3.mono (fun b o h => ⟨.inl h, rfl⟩) (fun _ _ h => h)
          refine u4.places fun l q hl hq => ?_
          cases kf with
          | true => simpa [Obj.plc] using hq
          | false =>
            simp only [Obj.plc] at hq ⊢
            refine hpl1 l q ?_ hq
            rintro rfl
            have hxm : (Obj.arr false n' es') ∈ objs := by
              unfold argOb at hx; split at hx
              · exact List.mem_of_getElem? hx
              · cases hx
            refine hm _ hxm ?_
            simp only [Obj.ments]
            refine ments_mem (List.mem_of_getElem? he) _ ?_
            cases e with
            | agg cs => simp only [V.ments]; exact ments_mem (List.mem_of_getElem? (by simpa [V.cells] using hx2)) _ hl
            | _ =>
              simp only [V.cells, List.getElem?_singleton] at hx2
              split at hx2 <;> cases hx2
              exact hl
      | froz n' es' =>
        obtain ⟨s1, s2, s3, s5⟩ := hr
        refine ⟨s1, s2, s3, fun j e he => ⟨⟨(s5 j e he).1.1, fun c x hx2 => ?_⟩, fun c hc => .inl ((s5 j e he).2 c hc)⟩⟩
        obtain ⟨u1, cv, u2, u3⟩ := (s5 j e he).1.2 c x hx2
        exact ⟨u1, cv, u2, u3.mono (fun b o h => ⟨.inl h, rfl⟩) (fun _ _ h => h)⟩
    · simp only [pl1]
      split
      · rfl
      · rename_i hne; exact hw.non k (by rw [argOb_app hne]; exact hx)
    · obtain ⟨hne, hx'⟩ := hob k x hx
      obtain ⟨hne2, hy'⟩ := hob l y hy
      simp only [pl1] at hq hr'
      rw [if_neg hne] at hq; rw [if_neg hne2] at hr'
      exact hw.dis k l x y q r b o hkl hx' hy' h1 h2 hq hr' hb
    · rcases hf with hf | hf
      · exact hw.fex b o hf
      · exact (isS (lent_has hro hf)).1
  obtain ⟨len0, hget⟩ := hl.get
  have hr1 : ∀ (i : Nat) y (hi : i < cargs.size), args'[i]? = some y → RepV F1 (memOf w) pl1 y cargs[i] := by
    intro i y hi hy
    obtain ⟨x, hx, hlx⟩ := hget i y hy
    have hrx := hrep i x hi hx
    rcases hlx with h0 | ⟨cs, ds, rfl, rfl, h0⟩
    · exact lend0_rep hro hp hpl1 h0 hrx
    · generalize cargs[i] = cv0 at hrx ⊢
      cases hrx with
      | agg ca hca hcr =>
        refine .agg ca (by rw [hca, h0.get.1]) (fun i2 y2 hi2 hy2 => ?_)
        obtain ⟨x2, hx2, h2⟩ := h0.get.2 i2 y2 hy2
        exact lend0_rep hro hp hpl1 h2 (hcr i2 x2 hi2 hx2)
  refine (h F1 pl1 w cargs hw1 (by rw [hsz, len0]) hr1).mono fun cv w' ⟨v, objs', news, F', pl', ⟨⟨n1, n2, n3⟩, hK⟩, hb⟩ => ?_
  have hlive : (Obj.arr true n es).live = true := rfl
  have hand : ∀ {b o}, handed pl1 objs b o → handed pl (objs ++ [.arr true n es]) b o ∧ ¬ p.has b o := by
    rintro b o ⟨j, x, q, hx, hlx, hq, hh⟩
    have hj : j < objs.length := (List.getElem?_eq_some_iff.1 hx).1
    have hne : ((0, j) : Key) ≠ (0, objs.length) := by intro e; cases e; omega
    simp only [pl1] at hq
    rw [if_neg hne] at hq
    refine ⟨⟨j, x, q, by rw [List.getElem?_append_left hj]; exact hx, hlx, hq, hh⟩, fun hh2 => ?_⟩
    exact hw.dis (0, j) (0, objs.length) x _ q p b o hne (by simp [argOb, List.getElem?_append_left hj, hx]) argOb_at hlx rfl hq hp hh hh2
  have hfr : ∀ {b o}, p.has b o → memOf w' b o = memOf w b o ∧ (frozOf w' b o ↔ frozOf w b o) := fun {b o} hh =>
    ⟨hb.same.cell b o (hlt hh) fun hx => (hand hx).2 hh, hb.same.froz b o (hlt hh) fun hx => (hand hx).2 hh⟩
  have hres : ∀ k x, resOb objs' news k = some x → k ≠ (0, objs.length) := by
    rintro k x hx rfl
    simp only [resOb, if_true] at hx
    have := (List.getElem?_eq_some_iff.1 hx).1
    have := hb.len
    omega
  have hpl0 : pl' (0, objs.length) = none := hb.wr.non _ (by
    simp only [resOb, if_true]
    rw [List.getElem?_eq_none (by have := hb.len; omega)])
  let F2 : Cells := fun b o => F' b o ∧ ¬ p.has b o
  let pl2 : Places := fun k => if k = (0, objs.length) then some p else pl' k
  have hpl2 : ∀ k q, pl' k = some q → pl2 k = some q := fun k q hq => by
    simp only [pl2]
    rw [if_neg]
    · exact hq
    · rintro rfl; rw [hpl0] at hq; cases hq
  have hobs : ∀ k, k ≠ (0, objs.length) → resOb (objs' ++ [.arr true n es]) news k = resOb objs' news k := fun k hne => by
    unfold resOb
    split
    · rename_i e
      rw [List.getElem?_append]
      split
      · rfl
      · rename_i h2
        rw [List.getElem?_eq_none (by omega : objs'.length ≤ k.2), List.getElem?_eq_none]
        simp only [List.length_singleton]
        have : k.2 ≠ objs.length := fun e2 => hne (Prod.ext e e2)
        have := hb.len
        omega
    · rfl
  have hobat : resOb (objs' ++ [.arr true n es]) news (0, objs.length) = some (.arr true n es) := by
    simp only [resOb, if_true]
    rw [List.getElem?_append_right (by have := hb.len; omega)]
    simp [hb.len]
  have hFw : ∀ b o, F b o → F2 b o ∧ memOf w' b o = memOf w b o := fun b o hf => by
    have h1 : ¬ p.has b o := fun hh => (isS hh).2.2 hf
    refine ⟨⟨hb.fF b o (.inl hf), h1⟩, ?_⟩
    refine hb.same.cell b o (memOf_lt (hw.fex b o hf)) fun ⟨j, x, q, hx, hlx, hq, hh⟩ => ?_
    obtain ⟨q', hq', hr'⟩ := hw1.rep (0, j) x (by simp [argOb, hx])
    rw [hq] at hq'; cases hq'
    cases x with
    | dead => cases hlx
    | froz => cases hlx
    | arr kf n' es' => obtain ⟨rfl, _⟩ := id hh; exact (hr'.2.2.2.1 o hh).2.2 (.inl hf)
  refine ⟨v, objs' ++ [.arr true n es], news, F2, pl2, hK, ?_⟩
  refine ⟨hb.rep.noF n1 hpl2, ⟨fun k x hx => ?_, fun k hx => ?_, fun k l x y q r b o hkl hx hy h1 h2 hq hr' hb1 hb2 => ?_, fun b o hf => hb.wr.fex b o hf.1⟩, by simp only [List.length_append, hb.len], fun j hj => ?_, fun b o hf => (hFw b o hf).1, fun b o hf => ?_, fun k x q b o hx hlx hq hh => ?_, ?_⟩
  · by_cases hk : k = (0, objs.length)
    · subst hk
      rw [hobat] at hx; cases hx
      refine ⟨p, by simp [pl2], r1, r2, r3, fun o ho => ⟨by rw [(hfr ho).1]; exact (r4 o ho).1, by rw [(hfr ho).2]; exact (r4 o ho).2.1, fun hf => hf.2 ho⟩, fun j e he => ?_⟩
      obtain ⟨t1, t2⟩ := r5 j e he
      refine ⟨t1, fun c x hx => ?_⟩
      obtain ⟨u1, cv, u2, u3⟩ := t2 c x hx
      have hc : c < n := by have := (List.getElem?_eq_some_iff.1 hx).1; omega
      have hj : j < es.length := (List.getElem?_eq_some_iff.1 he).1
      refine ⟨u1, cv, ?_, ?_⟩
      · rw [(hfr (lent_has hro ⟨rfl, j, c, hj, hc, rfl⟩)).1]; exact u2
      · simp only [Obj.plc, if_true] at u3 ⊢
        exact u3.mono (fun b o h => ⟨(hFw b o h).1, (hFw b o h).2⟩) (fun _ _ h => h)
    · rw [hobs k hk] at hx
      obtain ⟨q, hq, hr⟩ := hb.wr.rep k x hx
      refine ⟨q, hpl2 _ _ hq, ?_⟩
      have hno : x.noIs = true := by
        unfold resOb at hx
        split at hx
        · exact noIsO_get n2 _ _ hx
        · split at hx
          · exact noIsO_get n3 _ _ hx
          · cases hx
      cases x with
      | dead => trivial
      | froz => simp [Obj.noIs] at hno
      | arr kf n' es' =>
        obtain ⟨s1, s2, s3, s4, s5⟩ := hr
        refine ⟨s1, s2, s3, fun o ho => ⟨(s4 o ho).1, (s4 o ho).2.1, fun hf => (s4 o ho).2.2 hf.1⟩, fun j e he => ?_⟩
        obtain ⟨t1, t2⟩ := s5 j e he
        refine ⟨t1, fun c x hx2 => ?_⟩
        obtain ⟨u1, cv, u2, u3⟩ := t2 c x hx2
        refine ⟨u1, cv, u2, u3.noF (noIs_cells (noIs_get (by simpa [Obj.noIs] using hno) j e he) c x hx2) fun l q hq => ?_⟩
        cases kf with
        | true => simpa [Obj.plc] using hq
        | false => simp only [Obj.plc] at hq ⊢; exact hpl2 _ _ hq
  · by_cases hk : k = (0, objs.length)
    · subst hk; rw [hobat] at hx; cases hx
    · rw [hobs k hk] at hx
      simp only [pl2]; rw [if_neg hk]; exact hb.wr.non k hx
  · have go : ∀ (k : Key) x q b o, k ≠ (0, objs.length) → resOb objs' news k = some x → x.live = true → pl2 k = some q → q.has b o → ¬ p.has b o := by
      intro k x q b o hk hx hlx hq hh hh2
      simp only [pl2] at hq
      rw [if_neg hk] at hq
      rcases hb.own k x q b o hx hlx hq hh with h3 | h3
      · exact (hand h3).2 hh2
      · have := hlt hh2; omega
    by_cases hk : k = (0, objs.length)
    · have hl' : l ≠ (0, objs.length) := fun e => hkl (hk.trans e.symm)
      subst hk
      simp only [pl2, if_true] at hq; cases hq
      rw [hobs l hl'] at hy
      exact go l y r b o hl' hy h2 hr' hb2 hb1
    · by_cases hl' : l = (0, objs.length)
      · subst hl'
        simp only [pl2, if_true] at hr'; cases hr'
        rw [hobs k hk] at hx
        exact go k x q b o hk hx h1 hq hb1 hb2
      · rw [hobs k hk] at hx; rw [hobs l hl'] at hy
        simp only [pl2] at hq hr'
        rw [if_neg hk] at hq; rw [if_neg hl'] at hr'
        exact hb.wr.dis k l x y q r b o hkl hx hy h1 h2 hq hr' hb1 hb2
  · simp only [List.length_append, List.length_singleton] at hj
    by_cases e : j = objs.length
    · subst e; simp only [pl2, if_true]; exact hp.symm
    · have hne : ((0, j) : Key) ≠ (0, objs.length) := by intro e2; cases e2; exact e rfl
      simp only [pl2]; rw [if_neg hne, hb.plk j (by omega)]
      simp only [pl1]; rw [if_neg hne]
  · rcases hb.fX b o hf.1 with (h3 | h3) | h3 | h3
    · exact .inl h3
    · exact absurd (lent_has hro h3) hf.2
    · exact .inr (.inl (hand h3).1)
    · exact .inr (.inr h3)
  · by_cases hk : k = (0, objs.length)
    · subst hk
      simp only [pl2, if_true] at hq; cases hq
      exact .inl ⟨objs.length, .arr true n es, p, by simp, rfl, hp, hh⟩
    · rw [hobs k hk] at hx
      simp only [pl2] at hq
      rw [if_neg hk] at hq
      rcases hb.own k x q b o hx hlx hq hh with h3 | h3
      · exact .inl (hand h3).1
      · exact .inr h3
  · exact ⟨hb.same.os, hb.same.tape, hb.same.output, hb.same.size, fun b o h1 h2 => hb.same.cell b o h1 fun h3 => h2 (hand h3).1, fun b o h1 h2 => hb.same.froz b o h1 fun h3 => h2 (hand h3).1, fun b h1 h2 => hb.same.blk b h1 fun o h3 => h2 o (hand h3).1⟩
end Go.Eng
