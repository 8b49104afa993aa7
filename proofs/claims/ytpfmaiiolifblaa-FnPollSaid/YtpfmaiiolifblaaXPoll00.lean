/- A machine of values for the program's code, part 1: values, objects, states, and what they say of the memory. -/
import Derived.Orders
import Derived.Below
import Derived.KernelRfl
import Derived.ChangeKeysEq
import Derived.ArgAppend
namespace Go.Eng
open Go.RowKit

abbrev Key := Nat × Nat

/-- A value of the machine. `lp`, `ls`: a pointer, a slice into an object of the state (key, element, cell ¦ length). `ip`, `is`: the same into memory that nobody changes, with what it holds. -/
inductive V where
  | un
  | lit (v : Value)
  | e0
  | lp (k : Key) (n i off : Nat)
  | ls (k : Key) (n i len : Nat)
  | ip (n : Nat) (es : List V) (i off : Nat)
  | is (n : Nat) (es : List V)
  | fn (f : FuncId) (caps : List V)
  | agg (cs : List V)
  | tup (vs : List V)
  deriving Inhabited

def V.cells : V → List V
  | .agg cs => cs
  | v => [v]

def scal : V → Bool
  | .un | .agg _ | .tup _ | .lit (.agg _) | .lit (.tuple _) => false
  | _ => true

mutual
def V.ments : V → List Key
  | .lp k _ _ _ => [k]
  | .ls k _ _ _ => [k]
  | .fn _ cs => mentsL cs
  | .agg cs => mentsL cs
  | .tup cs => mentsL cs
  | _ => []
def mentsL : List V → List Key
  | [] => []
  | v :: vs => v.ments ++ mentsL vs
end

mutual
def V.ren (s : Key → Key) : V → V
  | .lp k n i o => .lp (s k) n i o
  | .ls k n i l => .ls (s k) n i l
  | .fn f cs => .fn f (renL s cs)
  | .agg cs => .agg (renL s cs)
  | .tup cs => .tup (renL s cs)
  | .un => .un
  | .e0 => .e0
  | .lit v => .lit v
  | .ip n es i o => .ip n es i o
  | .is n es => .is n es
def renL (s : Key → Key) : List V → List V
  | [] => []
  | v :: vs => v.ren s :: renL s vs
end

def ofVal : Value → V
  | .agg cs => .agg (cs.toList.map .lit)
  | v => .lit v

/-- An object: a row of elements of `n` cells each. `kf`: its elements name no objects. -/
inductive Obj where
  | dead
  | arr (kf : Bool) (n : Nat) (es : List V)
  | froz (n : Nat) (es : List V)

def Obj.ren (s : Key → Key) : Obj → Obj
  | .dead => .dead
  | .arr true n es => .arr true n es
  | .arr false n es => .arr false n (renL s es)
  | .froz n es => .froz n es

def Obj.ments : Obj → List Key
  | .arr false _ es => mentsL es
  | _ => []

abbrev Store := Key → Option Obj

structure St where
  tm : List V
  ob : Store

/-- Where an object lies: block, first cell, cells of an element, room in elements. -/
structure Pl where
  b : Nat
  base : Nat
  n : Nat
  C : Nat

def Pl.has (p : Pl) (b o : Nat) : Prop := b = p.b ∧ p.base ≤ o ∧ o < p.base + p.C * p.n

abbrev Mem := Nat → Nat → Option Value
def memOf (w : World) : Mem := fun b o => w.cell? ⟨b, o, none⟩
abbrev Cells := Nat → Nat → Prop
abbrev Places := Key → Option Pl
def noPl : Places := fun _ => none

inductive RepV (F : Cells) (m : Mem) : Places → V → Value → Prop where
  | un {pl cv} : RepV F m pl .un cv
  | lit {pl v} : RepV F m pl (.lit v) v
  | e0 {pl a} : RepV F m pl .e0 (.slice (some a) 0 0)
  | e0n {pl} : RepV F m pl .e0 (.slice none 0 0)
  | isn {pl n} : RepV F m pl (.is n []) (.slice none 0 0)
  | lp {pl k n i off p} : pl k = some p → p.n = n → RepV F m pl (.lp k n i off) (.pointer (some ⟨p.b, p.base + i * n + off, none⟩))
  | ls {pl k n i len p a cap} : pl k = some p → p.n = n → len ≤ cap → i + cap ≤ p.C → (cap ≠ 0 → a = ⟨p.b, p.base + i * n, none⟩) →
      RepV F m pl (.ls k n i len) (.slice (some a) len cap)
  | ip {pl es i off b base n} (cf : Nat → Nat → Value) : (∀ (j : Nat) e, es[j]? = some e → e.cells.length = n) →
      (∀ (j : Nat) e (c : Nat) x, es[j]? = some e → e.cells[c]? = some x → scal x = true ∧ F b (base + j * n + c) ∧ m b (base + j * n + c) = some (cf j c)) →
      (∀ (j : Nat) e (c : Nat) x, es[j]? = some e → e.cells[c]? = some x → RepV F m noPl x (cf j c)) →
      RepV F m pl (.ip n es i off) (.pointer (some ⟨b, base + i * n + off, none⟩))
  | is {pl es a cap n} (cf : Nat → Nat → Value) : es.length ≤ cap → (es ≠ [] → a.spot = none) → (∀ (j : Nat) e, es[j]? = some e → e.cells.length = n) →
      (∀ (j : Nat) e (c : Nat) x, es[j]? = some e → e.cells[c]? = some x → scal x = true ∧ F a.block (a.off + j * n + c) ∧ m a.block (a.off + j * n + c) = some (cf j c)) →
      (∀ (j : Nat) e (c : Nat) x, es[j]? = some e → e.cells[c]? = some x → RepV F m noPl x (cf j c)) →
      RepV F m pl (.is n es) (.slice (some a) es.length cap)
  | fn {pl f caps} (cs : Array Value) : cs.size = caps.length → (∀ (i : Nat) x (h : i < cs.size), caps[i]? = some x → RepV F m pl x cs[i]) →
      RepV F m pl (.fn f caps) (.func (.func f) #[] cs)
  | agg {pl vs} (cs : Array Value) : cs.size = vs.length → (∀ (i : Nat) x (h : i < cs.size), vs[i]? = some x → RepV F m pl x cs[i]) →
      RepV F m pl (.agg vs) (.agg cs)
  | tup {pl vs} (cs : Array Value) : cs.size = vs.length → (∀ (i : Nat) x (h : i < cs.size), vs[i]? = some x → RepV F m pl x cs[i]) →
      RepV F m pl (.tup vs) (.tuple cs)

theorem RepV.mono {F F' : Cells} {m m' : Mem} {pl : Places} {v : V} {cv : Value} (h : RepV F m pl v cv) :
    ∀ {pl' : Places}, (∀ b o, F b o → F' b o ∧ m' b o = m b o) → (∀ k p, pl k = some p → pl' k = some p) → RepV F' m' pl' v cv := by
  induction h with
  | un => intro _ _ _; exact .un
  | lit => intro _ _ _; exact .lit
  | e0 => intro _ _ _; exact .e0
  | e0n => intro _ _ _; exact .e0n
  | isn => intro _ _ _; exact .isn
  | lp hp h0 => intro _ _ hpl; exact .lp (hpl _ _ hp) h0
  | ls hp h0 h1 h2 h3 => intro _ _ hpl; exact .ls (hpl _ _ hp) h0 h1 h2 h3
  | ip cf h1 h2 _ ih =>
    intro _ hF _
    refine .ip cf h1 (fun j e c x he hx => ?_) (fun j e c x he hx => ih j e c x he hx hF (fun _ _ h => h))
    obtain ⟨hs, hf, hm⟩ := h2 j e c x he hx
    exact ⟨hs, (hF _ _ hf).1, (hF _ _ hf).2.trans hm⟩
  | is cf h0 h00 h1 h2 _ ih =>
    intro _ hF _
    refine .is cf h0 h00 h1 (fun j e c x he hx => ?_) (fun j e c x he hx => ih j e c x he hx hF (fun _ _ h => h))
    obtain ⟨hs, hf, hm⟩ := h2 j e c x he hx
    exact ⟨hs, (hF _ _ hf).1, (hF _ _ hf).2.trans hm⟩
  | fn cs h1 _ ih => intro _ hF hpl; exact .fn cs h1 (fun i x h hx => ih i x h hx hF hpl)
  | agg cs h1 _ ih => intro _ hF hpl; exact .agg cs h1 (fun i x h hx => ih i x h hx hF hpl)
  | tup cs h1 _ ih => intro _ hF hpl; exact .tup cs h1 (fun i x h hx => ih i x h hx hF hpl)

theorem RepV.ofNo {F : Cells} {m : Mem} {pl : Places} {v : V} {cv : Value} (h : RepV F m noPl v cv) : RepV F m pl v cv :=
  h.mono (fun _ _ h => ⟨h, rfl⟩) (fun _ _ h => nomatch h)

theorem ments_mem {v : V} {vs : List V} (h : v ∈ vs) : ∀ k, k ∈ v.ments → k ∈ mentsL vs := by
  induction vs with
  | nil => cases h
  | cons a t ih =>
    intro k hk
    simp only [mentsL, List.mem_append]
    cases h with
    | head => exact .inl hk
    | tail _ h => exact .inr (ih h k hk)

/-- Only the places of the keys that a value names matter. -/
theorem RepV.places {F : Cells} {m : Mem} {pl : Places} {v : V} {cv : Value} (h : RepV F m pl v cv) :
    ∀ {pl' : Places}, (∀ k p, k ∈ v.ments → pl k = some p → pl' k = some p) → RepV F m pl' v cv := by
  induction h with
  | un => intro _ _; exact .un
  | lit => intro _ _; exact .lit
  | e0 => intro _ _; exact .e0
  | e0n => intro _ _; exact .e0n
  | isn => intro _ _; exact .isn
  | lp hp h0 => intro _ hpl; exact .lp (hpl _ _ (by simp [V.ments]) hp) h0
  | ls hp h0 h1 h2 h3 => intro _ hpl; exact .ls (hpl _ _ (by simp [V.ments]) hp) h0 h1 h2 h3
  | ip cf h1 h2 h3 ih => intro _ _; exact .ip cf h1 h2 h3
  | is cf h0 h00 h1 h2 h3 ih => intro _ _; exact .is cf h0 h00 h1 h2 h3
  | fn cs h1 _ ih => intro _ hpl; exact .fn cs h1 (fun i x h hx => ih i x h hx (fun k p hk => hpl k p (by simp only [V.ments]; exact ments_mem (List.mem_of_getElem? hx) k hk)))
  | agg cs h1 _ ih => intro _ hpl; exact .agg cs h1 (fun i x h hx => ih i x h hx (fun k p hk => hpl k p (by simp only [V.ments]; exact ments_mem (List.mem_of_getElem? hx) k hk)))
  | tup cs h1 _ ih => intro _ hpl; exact .tup cs h1 (fun i x h hx => ih i x h hx (fun k p hk => hpl k p (by simp only [V.ments]; exact ments_mem (List.mem_of_getElem? hx) k hk)))

theorem renL_get {s : Key → Key} (vs : List V) (i : Nat) : (renL s vs)[i]? = (vs[i]?).map (V.ren s) := by
  induction vs generalizing i with
  | nil => simp [renL]
  | cons a t ih => cases i <;> simp [renL, ih]

theorem renL_length {s : Key → Key} (vs : List V) : (renL s vs).length = vs.length := by
  induction vs with
  | nil => rfl
  | cons a t ih => simp [renL, ih]

theorem RepV.ren {F : Cells} {m : Mem} {pl : Places} {v : V} {cv : Value} (h : RepV F m pl v cv) :
    ∀ {pl' : Places} {s : Key → Key}, (∀ k p, k ∈ v.ments → pl k = some p → pl' (s k) = some p) → RepV F m pl' (v.ren s) cv := by
  induction h with
  | un => intro _ _ _; exact .un
  | lit => intro _ _ _; exact .lit
  | e0 => intro _ _ _; exact .e0
  | e0n => intro _ _ _; exact .e0n
  | isn => intro _ _ _; exact .isn
  | lp hp h0 => intro _ _ hpl; exact .lp (hpl _ _ (by simp [V.ments]) hp) h0
  | ls hp h0 h1 h2 h3 => intro _ _ hpl; exact .ls (hpl _ _ (by simp [V.ments]) hp) h0 h1 h2 h3
  | ip cf h1 h2 h3 ih => intro _ _ _; exact .ip cf h1 h2 h3
  | is cf h0 h00 h1 h2 h3 ih => intro _ _ _; exact .is cf h0 h00 h1 h2 h3
  | fn cs h1 _ ih =>
    intro _ s hpl
    refine .fn cs (by rw [h1, renL_length]) (fun i x h hx => ?_)
    rw [renL_get] at hx
    obtain ⟨y, hy, rfl⟩ := Option.map_eq_some_iff.1 hx
    exact ih i y h hy (fun k p hk => hpl k p (by simp only [V.ments]; exact ments_mem (List.mem_of_getElem? hy) k hk))
  | agg cs h1 _ ih =>
    intro _ s hpl
    refine .agg cs (by rw [h1, renL_length]) (fun i x h hx => ?_)
    rw [renL_get] at hx
    obtain ⟨y, hy, rfl⟩ := Option.map_eq_some_iff.1 hx
    exact ih i y h hy (fun k p hk => hpl k p (by simp only [V.ments]; exact ments_mem (List.mem_of_getElem? hy) k hk))
  | tup cs h1 _ ih =>
    intro _ s hpl
    refine .tup cs (by rw [h1, renL_length]) (fun i x h hx => ?_)
    rw [renL_get] at hx
    obtain ⟨y, hy, rfl⟩ := Option.map_eq_some_iff.1 hx
    exact ih i y h hy (fun k p hk => hpl k p (by simp only [V.ments]; exact ments_mem (List.mem_of_getElem? hy) k hk))

theorem repL {F : Cells} {m : Mem} {pl : Places} (cs : List Value) (i : Nat) (x : V) (h : i < cs.toArray.size) (hx : (cs.map V.lit)[i]? = some x) : RepV F m pl x cs.toArray[i] := by
  simp only [List.getElem?_map, Option.map_eq_some_iff] at hx
  obtain ⟨y, hy, rfl⟩ := hx
  obtain ⟨h1, h2⟩ := List.getElem?_eq_some_iff.1 hy
  subst h2
  exact .lit

theorem rep_ofVal {F : Cells} {m : Mem} {pl : Places} (v : Value) : RepV F m pl (ofVal v) v := by
  cases v <;> first | exact .lit | skip
  rename_i cs
  exact .agg cs (by simp) (fun i x h hx => by simpa using repL cs.toList i x (by simpa using h) hx)

/-- What an element's cells hold. -/
def RepE (F : Cells) (m : Mem) (pl : Places) (b o n : Nat) (e : V) : Prop :=
  e.cells.length = n ∧ ∀ (c : Nat) x, e.cells[c]? = some x → scal x = true ∧ ∃ cv, m b (o + c) = some cv ∧ RepV F m pl x cv

def Obj.plc (kf : Bool) (pl : Places) : Places := if kf then noPl else pl

/-- What an object says of the memory. -/
def RepO (F : Cells) (m : Mem) (fz : Cells) (pl : Places) (p : Pl) : Obj → Prop
  | .dead => True
  | .arr kf n es => p.n = n ∧ 0 < n ∧ es.length ≤ p.C ∧ (∀ o, p.has p.b o → (m p.b o).isSome ∧ ¬ fz p.b o ∧ ¬ F p.b o) ∧
      ∀ (j : Nat) e, es[j]? = some e → RepE F m (Obj.plc kf pl) p.b (p.base + j * n) n e
  | .froz n es => p.n = n ∧ 0 < n ∧ es.length ≤ p.C ∧
      ∀ (j : Nat) e, es[j]? = some e → RepE F m noPl p.b (p.base + j * n) n e ∧ ∀ c, c < n → F p.b (p.base + j * n + c)

def frozOf (w : World) : Cells := fun b o => w.frozen? ⟨b, o, none⟩ = true

def Obj.live : Obj → Bool
  | .arr .. => true
  | _ => false

/-- What the objects of a store say of the world. -/
structure WR (F : Cells) (pl : Places) (ob : Store) (w : World) : Prop where
  rep : ∀ k o, ob k = some o → ∃ p, pl k = some p ∧ RepO F (memOf w) (frozOf w) pl p o
  non : ∀ k, ob k = none → pl k = none
  dis : ∀ k l x y p q b o, k ≠ l → ob k = some x → ob l = some y → x.live = true → y.live = true → pl k = some p → pl l = some q → p.has b o → q.has b o → False
  fex : ∀ b o, F b o → (memOf w b o).isSome

/-- Old memory outside X is as it was; the streams, too. -/
structure Same (X : Cells) (w w' : World) : Prop where
  os : w'.os = w.os
  tape : w'.tape = w.tape
  output : w'.output = w.output
  size : w.heap.size ≤ w'.heap.size
  cell : ∀ b o, b < w.heap.size → ¬ X b o → memOf w' b o = memOf w b o
  froz : ∀ b o, b < w.heap.size → ¬ X b o → (frozOf w' b o ↔ frozOf w b o)
  blk : ∀ b, b < w.heap.size → (∀ o, ¬ X b o) → w'.heap[b]? = w.heap[b]?

theorem Same.refl (X : Cells) (w : World) : Same X w w := ⟨rfl, rfl, rfl, Nat.le_refl _, fun _ _ _ _ => rfl, fun _ _ _ _ => Iff.rfl, fun _ _ _ => rfl⟩
theorem Same.trans {X : Cells} {a b c : World} (h : Same X a b) (k : Same X b c) : Same X a c :=
  ⟨k.os.trans h.os, k.tape.trans h.tape, k.output.trans h.output, Nat.le_trans h.size k.size,
    fun x y hx hy => (k.cell x y (Nat.lt_of_lt_of_le hx h.size) hy).trans (h.cell x y hx hy),
    fun x y hx hy => (k.froz x y (Nat.lt_of_lt_of_le hx h.size) hy).trans (h.froz x y hx hy),
    fun x hx hy => (k.blk x (Nat.lt_of_lt_of_le hx h.size) hy).trans (h.blk x hx hy)⟩

/-- The run of one function: the world at its call, what was unchangeable then, and the cells that it was handed. -/
structure Ctx where
  w0 : World
  pl0 : Places
  F0 : Cells
  X0 : Cells

def Ctx.mine (c : Ctx) : Cells := fun b o => c.X0 b o ∨ c.w0.heap.size ≤ b

structure Inv (c : Ctx) (F : Cells) (pl : Places) (st : St) (a : Act) (w : World) : Prop where
  defers : a.defers = []
  tm : ∀ (i : Nat) v, st.tm[i]? = some v → ∃ h : i < a.tmps.size, RepV F (memOf w) pl v a.tmps[i]
  wr : WR F pl st.ob w
  f0 : ∀ b o, c.F0 b o → F b o
  ff : ∀ b o, F b o → c.F0 b o ∨ c.mine b o
  own : ∀ k x p b o, st.ob k = some x → x.live = true → pl k = some p → p.has b o → c.mine b o
  same : Same c.X0 c.w0 w
  arg : ∀ (k : Key) p, k.1 = 0 → pl k = some p → c.pl0 k = some p

def ev (tm : List V) : Operand → V
  | .tmp t => tm.getD t .un
  | .const v => ofVal v
  | .func f => .fn f []
  | .global _ => .un

theorem ev_rep {c : Ctx} {F : Cells} {pl : Places} {st : St} {a : Act} {w : World} (h : Inv c F pl st a w) (x : Operand) :
    RepV F (memOf w) pl (ev st.tm x) (a.eval x) := by
  cases x with
  | tmp t =>
    simp only [ev, Act.eval]
    cases ht : st.tm[t]? with
    | none => simp [List.getD, ht]; exact .un
    | some v =>
      obtain ⟨hlt, hr⟩ := h.tm t v ht
      simp only [List.getD, ht, Option.getD_some]
      simpa [hlt] using hr
  | const v => exact rep_ofVal v
  | global g => exact .un
  | func f => exact .fn #[] rfl (fun i x h => absurd h (by simp))

def St.put (s : St) (dst : Option Nat) (v : V) : St :=
  match dst with
  | none => s
  | some d => { s with tm := s.tm.set d v }

theorem Inv.put {c : Ctx} {F : Cells} {pl : Places} {st : St} {a : Act} {w : World} (h : Inv c F pl st a w) (dst : Option Nat) {v : V} {cv : Value}
    (hv : RepV F (memOf w) pl v cv) : Inv c F pl (st.put dst v) (a.put dst cv) w := by
  cases dst with
  | none => exact h
  | some d =>
    refine ⟨h.defers, fun i x hx => ?_, h.wr, h.f0, h.ff, h.own, h.same, h.arg⟩
    simp only [St.put, List.getElem?_set] at hx
    split at hx
    · rename_i hd
      subst hd
      split at hx
      · rename_i hlt
        cases hx
        obtain ⟨hlt', _⟩ := h.tm d _ (List.getElem?_eq_getElem hlt)
        exact ⟨by simpa [Act.put] using hlt', by simpa [Act.put] using hv⟩
      · cases hx
    · rename_i hd
      obtain ⟨hlt, hr⟩ := h.tm i x hx
      refine ⟨by simpa [Act.put] using hlt, ?_⟩
      have := Array.getElem_setIfInBounds_ne (xs := a.tmps) (a := cv) hlt hd
      simp only [Act.put]
      rw [this]
      exact hr
end Go.Eng
