import Derived.Orders
import Derived.Below
import Derived.KernelRfl
import Derived.ChangeKeysEq
import Derived.ArgAppend
import Derived.Laws.StructEq
import Derived.Laws.IdiomCopy
/- A machine of values for the program's code, part 1: values, objects, states, and what they say of the memory. -/
namespace Go.Eng
open Go.RowKit

abbrev Key := Nat × Nat

/-- A value of the machine. `lp`, `ls`: a pointer, a slice into an object of the state (key, element, cell ¦ length). `ip`, `is`: the same into memory that nobody changes, with what it holds. -/
inductive V where
  | un
  | lit (v : Value)
  | e0
  | lp (k : Key) (n i off : Nat)
  | ls (k : Key) (n i len : Nat)
  | ip (n : Nat) (es : List V) (i off : Nat)
  | is (n : Nat) (es : List V)
  | fn (f : FuncId) (caps : List V)
  | agg (cs : List V)
  | tup (vs : List V)
  deriving Inhabited

def V.cells : V → List V
  | .agg cs => cs
  | v => [v]

def scal : V → Bool
  | .un | .agg _ | .tup _ | .lit (.agg _) | .lit (.tuple _) => false
  | _ => true

mutual
def V.ments : V → List Key
  | .lp k _ _ _ => [k]
  | .ls k _ _ _ => [k]
  | .fn _ cs => mentsL cs
  | .agg cs => mentsL cs
  | .tup cs => mentsL cs
  | _ => []
def mentsL : List V → List Key
  | [] => []
  | v :: vs => v.ments ++ mentsL vs
end

mutual
def V.ren (s : Key → Key) : V → V
  | .lp k n i o => .lp (s k) n i o
  | .ls k n i l => .ls (s k) n i l
  | .fn f cs => .fn f (renL s cs)
  | .agg cs => .agg (renL s cs)
  | .tup cs => .tup (renL s cs)
  | .un => .un
  | .e0 => .e0
  | .lit v => .lit v
  | .ip n es i o => .ip n es i o
  | .is n es => .is n es
def renL (s : Key → Key) : List V → List V
  | [] => []
  | v :: vs => v.ren s :: renL s vs
end

def ofVal : Value → V
  | .agg cs => .agg (cs.toList.map .lit)
  | v => .lit v

/-- An object: a row of elements of `n` cells each. `kf`: its elements name no objects. -/
inductive Obj where
  | dead
  | arr (kf : Bool) (n : Nat) (es : List V)
  | froz (n : Nat) (es : List V)

def Obj.ren (s : Key → Key) : Obj → Obj
  | .dead => .dead
  | .arr true n es => .arr true n es
  | .arr false n es => .arr false n (renL s es)
  | .froz n es => .froz n es

def Obj.ments : Obj → List Key
  | .arr false _ es => mentsL es
  | _ => []

abbrev Store := Key → Option Obj

structure St where
  tm : List V
  ob : Store

/-- Where an object lies: block, first cell, cells of an element, room in elements. -/
structure Pl where
  b : Nat
  base : Nat
  n : Nat
  C : Nat

def Pl.has (p : Pl) (b o : Nat) : Prop := b = p.b ∧ p.base ≤ o ∧ o < p.base + p.C * p.n

abbrev Mem := Nat → Nat → Option Value
def memOf (w : World) : Mem := fun b o => w.cell? ⟨b, o, none⟩
abbrev Cells := Nat → Nat → Prop
abbrev Places := Key → Option Pl
def noPl : Places := fun _ => none

inductive RepV (F : Cells) (m : Mem) : Places → V → Value → Prop where
  | un {pl cv} : RepV F m pl .un cv
  | lit {pl v} : RepV F m pl (.lit v) v
  | e0 {pl a} : RepV F m pl .e0 (.slice (some a) 0 0)
  | e0n {pl} : RepV F m pl .e0 (.slice none 0 0)
  | isn {pl n} : RepV F m pl (.is n []) (.slice none 0 0)
  | lp {pl k n i off p} : pl k = some p → p.n = n → RepV F m pl (.lp k n i off) (.pointer (some ⟨p.b, p.base + i * n + off, none⟩))
  | ls {pl k n i len p a cap} : pl k = some p → p.n = n → len ≤ cap → i + cap ≤ p.C → (cap ≠ 0 → a = ⟨p.b, p.base + i * n, none⟩) →
      RepV F m pl (.ls k n i len) (.slice (some a) len cap)
  | ip {pl es i off b base n} (cf : Nat → Nat → Value) : (∀ (j : Nat) e, es[j]? = some e → e.cells.length = n) →
      (∀ (j : Nat) e (c : Nat) x, es[j]? = some e → e.cells[c]? = some x → scal x = true ∧ F b (base + j * n + c) ∧ m b (base + j * n + c) = some (cf j c)) →
      (∀ (j : Nat) e (c : Nat) x, es[j]? = some e → e.cells[c]? = some x → RepV F m noPl x (cf j c)) →
      RepV F m pl (.ip n es i off) (.pointer (some ⟨b, base + i * n + off, none⟩))
  | is {pl es a cap n} (cf : Nat → Nat → Value) : es.length ≤ cap → (es ≠ [] → a.spot = none) → (∀ (j : Nat) e, es[j]? = some e → e.cells.length = n) →
      (∀ (j : Nat) e (c : Nat) x, es[j]? = some e → e.cells[c]? = some x → scal x = true ∧ F a.block (a.off + j * n + c) ∧ m a.block (a.off + j * n + c) = some (cf j c)) →
      (∀ (j : Nat) e (c : Nat) x, es[j]? = some e → e.cells[c]? = some x → RepV F m noPl x (cf j c)) →
      RepV F m pl (.is n es) (.slice (some a) es.length cap)
  | fn {pl f caps} (cs : Array Value) : cs.size = caps.length → (∀ (i : Nat) x (h : i < cs.size), caps[i]? = some x → RepV F m pl x cs[i]) →
      RepV F m pl (.fn f caps) (.func (.func f) #[] cs)
  | agg {pl vs} (cs : Array Value) : cs.size = vs.length → (∀ (i : Nat) x (h : i < cs.size), vs[i]? = some x → RepV F m pl x cs[i]) →
      RepV F m pl (.agg vs) (.agg cs)
  | tup {pl vs} (cs : Array Value) : cs.size = vs.length → (∀ (i : Nat) x (h : i < cs.size), vs[i]? = some x → RepV F m pl x cs[i]) →
      RepV F m pl (.tup vs) (.tuple cs)

theorem RepV.mono {F F' : Cells} {m m' : Mem} {pl : Places} {v : V} {cv : Value} (h : RepV F m pl v cv) :
    ∀ {pl' : Places}, (∀ b o, F b o → F' b o ∧ m' b o = m b o) → (∀ k p, pl k = some p → pl' k = some p) → RepV F' m' pl' v cv := by
  induction h with
  | un => intro _ _ _; exact .un
  | lit => intro _ _ _; exact .lit
  | e0 => intro _ _ _; exact .e0
  | e0n => intro _ _ _; exact .e0n
  | isn => intro _ _ _; exact .isn
  | lp hp h0 => intro _ _ hpl; exact .lp (hpl _ _ hp) h0
  | ls hp h0 h1 h2 h3 => intro _ _ hpl; exact .ls (hpl _ _ hp) h0 h1 h2 h3
  | ip cf h1 h2 _ ih =>
    intro _ hF _
    refine .ip cf h1 (fun j e c x he hx => ?_) (fun j e c x he hx => ih j e c x he hx hF (fun _ _ h => h))
    obtain ⟨hs, hf, hm⟩ := h2 j e c x he hx
    exact ⟨hs, (hF _ _ hf).1, (hF _ _ hf).2.trans hm⟩
  | is cf h0 h00 h1 h2 _ ih =>
    intro _ hF _
    refine .is cf h0 h00 h1 (fun j e c x he hx => ?_) (fun j e c x he hx => ih j e c x he hx hF (fun _ _ h => h))
    obtain ⟨hs, hf, hm⟩ := h2 j e c x he hx
    exact ⟨hs, (hF _ _ hf).1, (hF _ _ hf).2.trans hm⟩
  | fn cs h1 _ ih => intro _ hF hpl; exact .fn cs h1 (fun i x h hx => ih i x h hx hF hpl)
  | agg cs h1 _ ih => intro _ hF hpl; exact .agg cs h1 (fun i x h hx => ih i x h hx hF hpl)
  | tup cs h1 _ ih => intro _ hF hpl; exact .tup cs h1 (fun i x h hx => ih i x h hx hF hpl)

theorem RepV.ofNo {F : Cells} {m : Mem} {pl : Places} {v : V} {cv : Value} (h : RepV F m noPl v cv) : RepV F m pl v cv :=
  h.mono (fun _ _ h => ⟨h, rfl⟩) (fun _ _ h => nomatch h)

theorem ments_mem {v : V} {vs : List V} (h : v ∈ vs) : ∀ k, k ∈ v.ments → k ∈ mentsL vs := by
  induction vs with
  | nil => cases h
  | cons a t ih =>
    intro k hk
    simp only [mentsL, List.mem_append]
    cases h with
    | head => exact .inl hk
    | tail _ h => exact .inr (ih h k hk)

/-- Only the places of the keys that a value names matter. -/
theorem RepV.places {F : Cells} {m : Mem} {pl : Places} {v : V} {cv : Value} (h : RepV F m pl v cv) :
    ∀ {pl' : Places}, (∀ k p, k ∈ v.ments → pl k = some p → pl' k = some p) → RepV F m pl' v cv := by
  induction h with
  | un => intro _ _; exact .un
  | lit => intro _ _; exact .lit
  | e0 => intro _ _; exact .e0
  | e0n => intro _ _; exact .e0n
  | isn => intro _ _; exact .isn
  | lp hp h0 => intro _ hpl; exact .lp (hpl _ _ (by simp [V.ments]) hp) h0
  | ls hp h0 h1 h2 h3 => intro _ hpl; exact .ls (hpl _ _ (by simp [V.ments]) hp) h0 h1 h2 h3
  | ip cf h1 h2 h3 ih => intro _ _; exact .ip cf h1 h2 h3
  | is cf h0 h00 h1 h2 h3 ih => intro _ _; exact .is cf h0 h00 h1 h2 h3
  | fn cs h1 _ ih => intro _ hpl; exact .fn cs h1 (fun i x h hx => ih i x h hx (fun k p hk => hpl k p (by simp only [V.ments]; exact ments_mem (List.mem_of_getElem? hx) k hk)))
  | agg cs h1 _ ih => intro _ hpl; exact .agg cs h1 (fun i x h hx => ih i x h hx (fun k p hk => hpl k p (by simp only [V.ments]; exact ments_mem (List.mem_of_getElem? hx) k hk)))
  | tup cs h1 _ ih => intro _ hpl; exact .tup cs h1 (fun i x h hx => ih i x h hx (fun k p hk => hpl k p (by simp only [V.ments]; exact ments_mem (List.mem_of_getElem? hx) k hk)))

theorem renL_get {s : Key → Key} (vs : List V) (i : Nat) : (renL s vs)[i]? = (vs[i]?).map (V.ren s) := by
  induction vs generalizing i with
  | nil => simp [renL]
  | cons a t ih => cases i <;> simp [renL, ih]

theorem renL_length {s : Key → Key} (vs : List V) : (renL s vs).length = vs.length := by
  induction vs with
  | nil => rfl
  | cons a t ih => simp [renL, ih]

theorem RepV.ren {F : Cells} {m : Mem} {pl : Places} {v : V} {cv : Value} (h : RepV F m pl v cv) :
    ∀ {pl' : Places} {s : Key → Key}, (∀ k p, k ∈ v.ments → pl k = some p → pl' (s k) = some p) → RepV F m pl' (v.ren s) cv := by
  induction h with
  | un => intro _ _ _; exact .un
  | lit => intro _ _ _; exact .lit
  | e0 => intro _ _ _; exact .e0
  | e0n => intro _ _ _; exact .e0n
  | isn => intro _ _ _; exact .isn
  | lp hp h0 => intro _ _ hpl; exact .lp (hpl _ _ (by simp [V.ments]) hp) h0
  | ls hp h0 h1 h2 h3 => intro _ _ hpl; exact .ls (hpl _ _ (by simp [V.ments]) hp) h0 h1 h2 h3
  | ip cf h1 h2 h3 ih => intro _ _ _; exact .ip cf h1 h2 h3
  | is cf h0 h00 h1 h2 h3 ih => intro _ _ _; exact .is cf h0 h00 h1 h2 h3
  | fn cs h1 _ ih =>
    intro _ s hpl
    refine .fn cs (by rw [h1, renL_length]) (fun i x h hx => ?_)
    rw [renL_get] at hx
    obtain ⟨y, hy, rfl⟩ := Option.map_eq_some_iff.1 hx
    exact ih i y h hy (fun k p hk => hpl k p (by simp only [V.ments]; exact ments_mem (List.mem_of_getElem? hy) k hk))
  | agg cs h1 _ ih =>
    intro _ s hpl
    refine .agg cs (by rw [h1, renL_length]) (fun i x h hx => ?_)
    rw [renL_get] at hx
    obtain ⟨y, hy, rfl⟩ := Option.map_eq_some_iff.1 hx
    exact ih i y h hy (fun k p hk => hpl k p (by simp only [V.ments]; exact ments_mem (List.mem_of_getElem? hy) k hk))
  | tup cs h1 _ ih =>
    intro _ s hpl
    refine .tup cs (by rw [h1, renL_length]) (fun i x h hx => ?_)
    rw [renL_get] at hx
    obtain ⟨y, hy, rfl⟩ := Option.map_eq_some_iff.1 hx
    exact ih i y h hy (fun k p hk => hpl k p (by simp only [V.ments]; exact ments_mem (List.mem_of_getElem? hy) k hk))

theorem repL {F : Cells} {m : Mem} {pl : Places} (cs : List Value) (i : Nat) (x : V) (h : i < cs.toArray.size) (hx : (cs.map V.lit)[i]? = some x) : RepV F m pl x cs.toArray[i] := by
  simp only [List.getElem?_map, Option.map_eq_some_iff] at hx
  obtain ⟨y, hy, rfl⟩ := hx
  obtain ⟨h1, h2⟩ := List.getElem?_eq_some_iff.1 hy
  subst h2
  exact .lit

theorem rep_ofVal {F : Cells} {m : Mem} {pl : Places} (v : Value) : RepV F m pl (ofVal v) v := by
  cases v <;> first | exact .lit | skip
  rename_i cs
  exact .agg cs (by simp) (fun i x h hx => by simpa using repL cs.toList i x (by simpa using h) hx)

/-- What an element's cells hold. -/
def RepE (F : Cells) (m : Mem) (pl : Places) (b o n : Nat) (e : V) : Prop :=
  e.cells.length = n ∧ ∀ (c : Nat) x, e.cells[c]? = some x → scal x = true ∧ ∃ cv, m b (o + c) = some cv ∧ RepV F m pl x cv

def Obj.plc (kf : Bool) (pl : Places) : Places := if kf then noPl else pl

/-- What an object says of the memory. -/
def RepO (F : Cells) (m : Mem) (fz : Cells) (pl : Places) (p : Pl) : Obj → Prop
  | .dead => True
  | .arr kf n es => p.n = n ∧ 0 < n ∧ es.length ≤ p.C ∧ (∀ o, p.has p.b o → (m p.b o).isSome ∧ ¬ fz p.b o ∧ ¬ F p.b o) ∧
      ∀ (j : Nat) e, es[j]? = some e → RepE F m (Obj.plc kf pl) p.b (p.base + j * n) n e
  | .froz n es => p.n = n ∧ 0 < n ∧ es.length ≤ p.C ∧
      ∀ (j : Nat) e, es[j]? = some e → RepE F m noPl p.b (p.base + j * n) n e ∧ ∀ c, c < n → F p.b (p.base + j * n + c)

def frozOf (w : World) : Cells := fun b o => w.frozen? ⟨b, o, none⟩ = true

def Obj.live : Obj → Bool
  | .arr .. => true
  | _ => false

/-- What the objects of a store say of the world. -/
structure WR (F : Cells) (pl : Places) (ob : Store) (w : World) : Prop where
  rep : ∀ k o, ob k = some o → ∃ p, pl k = some p ∧ RepO F (memOf w) (frozOf w) pl p o
  non : ∀ k, ob k = none → pl k = none
  dis : ∀ k l x y p q b o, k ≠ l → ob k = some x → ob l = some y → x.live = true → y.live = true → pl k = some p → pl l = some q → p.has b o → q.has b o → False
  fex : ∀ b o, F b o → (memOf w b o).isSome

/-- Old memory outside X is as it was; the streams, too. -/
structure Same (X : Cells) (w w' : World) : Prop where
  os : w'.os = w.os
  tape : w'.tape = w.tape
  output : w'.output = w.output
  size : w.heap.size ≤ w'.heap.size
  cell : ∀ b o, b < w.heap.size → ¬ X b o → memOf w' b o = memOf w b o
  froz : ∀ b o, b < w.heap.size → ¬ X b o → (frozOf w' b o ↔ frozOf w b o)
  blk : ∀ b, b < w.heap.size → (∀ o, ¬ X b o) → w'.heap[b]? = w.heap[b]?

theorem Same.refl (X : Cells) (w : World) : Same X w w := ⟨rfl, rfl, rfl, Nat.le_refl _, fun _ _ _ _ => rfl, fun _ _ _ _ => Iff.rfl, fun _ _ _ => rfl⟩
theorem Same.trans {X : Cells} {a b c : World} (h : Same X a b) (k : Same X b c) : Same X a c :=
  ⟨k.os.trans h.os, k.tape.trans h.tape, k.output.trans h.output, Nat.le_trans h.size k.size,
    fun x y hx hy => (k.cell x y (Nat.lt_of_lt_of_le hx h.size) hy).trans (h.cell x y hx hy),
    fun x y hx hy => (k.froz x y (Nat.lt_of_lt_of_le hx h.size) hy).trans (h.froz x y hx hy),
    fun x hx hy => (k.blk x (Nat.lt_of_lt_of_le hx h.size) hy).trans (h.blk x hx hy)⟩

/-- The run of one function: the world at its call, what was unchangeable then, and the cells that it was handed. -/
structure Ctx where
  w0 : World
  pl0 : Places
  F0 : Cells
  X0 : Cells

def Ctx.mine (c : Ctx) : Cells := fun b o => c.X0 b o ∨ c.w0.heap.size ≤ b

structure Inv (c : Ctx) (F : Cells) (pl : Places) (st : St) (a : Act) (w : World) : Prop where
  defers : a.defers = []
  tm : ∀ (i : Nat) v, st.tm[i]? = some v → ∃ h : i < a.tmps.size, RepV F (memOf w) pl v a.tmps[i]
  wr : WR F pl st.ob w
  f0 : ∀ b o, c.F0 b o → F b o
  ff : ∀ b o, F b o → c.F0 b o ∨ c.mine b o
  own : ∀ k x p b o, st.ob k = some x → x.live = true → pl k = some p → p.has b o → c.mine b o
  same : Same c.X0 c.w0 w
  arg : ∀ (k : Key) p, k.1 = 0 → pl k = some p → c.pl0 k = some p

def ev (tm : List V) : Operand → V
  | .tmp t => tm.getD t .un
  | .const v => ofVal v
  | .func f => .fn f []
  | .global _ => .un

theorem ev_rep {c : Ctx} {F : Cells} {pl : Places} {st : St} {a : Act} {w : World} (h : Inv c F pl st a w) (x : Operand) :
    RepV F (memOf w) pl (ev st.tm x) (a.eval x) := by
  cases x with
  | tmp t =>
    simp only [ev, Act.eval]
    cases ht : st.tm[t]? with
    | none => simp [List.getD, ht]; exact .un
    | some v =>
      obtain ⟨hlt, hr⟩ := h.tm t v ht
      simp only [List.getD, ht, Option.getD_some]
      simpa [hlt] using hr
  | const v => exact rep_ofVal v
  | global g => exact .un
  | func f => exact .fn #[] rfl (fun i x h => absurd h (by simp))

def St.put (s : St) (dst : Option Nat) (v : V) : St :=
  match dst with
  | none => s
  | some d => { s with tm := s.tm.set d v }

theorem Inv.put {c : Ctx} {F : Cells} {pl : Places} {st : St} {a : Act} {w : World} (h : Inv c F pl st a w) (dst : Option Nat) {v : V} {cv : Value}
    (hv : RepV F (memOf w) pl v cv) : Inv c F pl (st.put dst v) (a.put dst cv) w := by
  cases dst with
  | none => exact h
  | some d =>
    refine ⟨h.defers, fun i x hx => ?_, h.wr, h.f0, h.ff, h.own, h.same, h.arg⟩
    simp only [St.put, List.getElem?_set] at hx
    split at hx
    · rename_i hd
      subst hd
      split at hx
      · rename_i hlt
        cases hx
        obtain ⟨hlt', _⟩ := h.tm d _ (List.getElem?_eq_getElem hlt)
        exact ⟨by simpa [Act.put] using hlt', by simpa [Act.put] using hv⟩
      · cases hx
    · rename_i hd
      obtain ⟨hlt, hr⟩ := h.tm i x hx
      refine ⟨by simpa [Act.put] using hlt, ?_⟩
      have := Array.getElem_setIfInBounds_ne (xs := a.tmps) (a := cv) hlt hd
      simp only [Act.put]
      rw [this]
      exact hr
end Go.Eng

/- A machine of values for the program's code, part 2: operations that only compute. -/
namespace Go.Eng
open Go.RowKit

/-- What a zero cell is. -/
inductive Z where
  | int (k : IntKind) | bool | str | ptr | slice | nilf | nili
  deriving DecidableEq

def Z.val : Z → Value
  | .int k => .int k 0
  | .bool => .bool false
  | .str => .string .empty
  | .ptr => .pointer none
  | .slice => .slice none 0 0
  | .nilf => .nilFunc
  | .nili => .nilIface

def Z.is : Z → Value → Bool
  | .int k, .int k' n => k == k' && n == 0
  | .bool, .bool b => !b
  | .str, .string s => s.size == 0
  | .ptr, .pointer a => a.isNone
  | .slice, .slice a l c => a.isNone && l == 0 && c == 0
  | .nilf, .nilFunc => true
  | .nili, .nilIface => true
  | _, _ => false

theorem Z.is_eq {z : Z} {v : Value} (h : z.is v = true) : v = z.val := by
  cases z <;> cases v <;> simp only [Z.is, Bool.false_eq_true, Bool.and_eq_true, beq_iff_eq, Bool.not_eq_true', Option.isNone_iff_eq_none] at h
  · obtain ⟨h1, h2⟩ := h; subst h1 h2; rfl
  · subst h; rfl
  · rename_i s
    cases s; rename_i d
    cases d; rename_i l
    cases l with
    | nil => rfl
    | cons a t => simp [ByteArray.size] at h
  · subst h; rfl
  · obtain ⟨⟨h1, h2⟩, h3⟩ := h; subst h1 h2 h3; rfl
  · rfl
  · rfl

/-- A type as the machine sees it: for a struct, each field's first cell, size and whether it is an aggregate. -/
inductive TD where
  | int (k : IntKind) | bool | str | ptr | func
  | struct (fs : List (Nat × TypeId))
  | slice (e : TypeId)
  | other

structure TI where
  td : TD
  size : Nat
  bytes : Nat
  zero : List Z

abbrev TT := TypeId → Option TI

def TD.isAgg : TD → Bool
  | .struct _ => true
  | _ => false

def TD.is : TD → TypeDesc → Bool
  | .int k, .int k' => k == k'
  | .bool, .bool => true
  | .str, .string => true
  | .ptr, .pointer _ => true
  | .func, .func _ _ _ => true
  | .struct fs, .struct fields => fs == fields.toList.map (fun f => (f.offset, f.type))
  | .slice e, .slice e' => e == e'
  | .other, .interface _ => true
  | _, _ => false

def zerosIs : List Z → List Value → Bool
  | [], [] => true
  | z :: zs, v :: vs => z.is v && zerosIs zs vs
  | _, _ => false

def TI.zis (ti : TI) (z : Value) : Bool :=
  match ti.td.isAgg, z with
  | true, .agg cs => zerosIs ti.zero cs.toList
  | false, v => match ti.zero with | [z] => z.is v | _ => false
  | _, _ => false

/-- A struct whose values are compared field by field. -/
def eqPlain (P : Program) (t : TypeId) : TypeDesc → Bool
  | .struct fields => !P.stoodInHeld t && fields.toList.all (fun f => f.name != "_") && !P.eqGuardType P.depth t
  | _ => true

def tiCheck (P : Program) (t : TypeId) (ti : TI) : Bool :=
  match P.info? t, P.underlying t with
  | some i, some d => i.size == ti.size && i.bytes == ti.bytes && (match i.zero with | some z => ti.zis z | none => false) && ti.td.is d && ti.zero.length == ti.size && eqPlain P t d
  | _, _ => false

def TTok (P : Program) (tt : TT) : Prop := ∀ t ti, tt t = some ti → tiCheck P t ti = true

theorem zerosIs_eq : ∀ {zs : List Z} {vs : List Value}, zerosIs zs vs = true → vs = zs.map Z.val
  | [], [], _ => rfl
  | z :: zs, v :: vs, h => by
    simp only [zerosIs, Bool.and_eq_true] at h
    rw [Z.is_eq h.1, zerosIs_eq h.2]; rfl
  | [], _ :: _, h => by simp [zerosIs] at h
  | _ :: _, [], h => by simp [zerosIs] at h

def TI.zeroVal (ti : TI) : Value :=
  match ti.td.isAgg with
  | true => .agg (ti.zero.map Z.val).toArray
  | false => match ti.zero with | [z] => z.val | _ => undef

def TI.zeroV (ti : TI) : V :=
  match ti.td.isAgg with
  | true => .agg (ti.zero.map fun z => .lit z.val)
  | false => match ti.zero with | [z] => .lit z.val | _ => .un

structure TOk (P : Program) (t : TypeId) (ti : TI) (i : TypeInfo) (d : TypeDesc) : Prop where
  info : P.info? t = some i
  und : P.underlying t = some d
  size : i.size = ti.size
  bytes : i.bytes = ti.bytes
  zero : i.zero = some ti.zeroVal
  isd : ti.td.is d = true
  zl : ti.zero.length = ti.size
  zs : ti.td.isAgg = false → ti.size = 1
  eqp : eqPlain P t d = true

theorem TTok.get {P : Program} {tt : TT} (h : TTok P tt) {t : TypeId} {ti : TI} (ht : tt t = some ti) : ∃ i d, TOk P t ti i d := by
  have := h t ti ht
  unfold tiCheck at this
  split at this
  · rename_i i d hi hd
    simp only [Bool.and_eq_true, beq_iff_eq] at this
    obtain ⟨⟨⟨⟨⟨h1, h2⟩, h3⟩, h4⟩, h5⟩, h6⟩ := this
    split at h3
    · rename_i z hz
      refine ⟨i, d, hi, hd, h1, h2, ?_, h4, h5, ?_, h6⟩
      · rw [hz]; congr 1
        unfold TI.zis at h3; unfold TI.zeroVal
        split at h3
        · rename_i cs ha
          simp only [ha]
          have := zerosIs_eq h3
          rw [← this]
        · rename_i ha
          simp only [ha]
          split at h3
          · rename_i z' hz'
            exact Z.is_eq h3
          · cases h3
        · cases h3
      · intro ha
        unfold TI.zis at h3
        simp only [ha] at h3
        split at h3
        · rename_i hz'; rw [hz'] at h5; simpa using h5.symm
        · cases h3
    · cases h3
  · cases this

section runs
variable {P : Program} (w : World)
theorem TOk.agg {t ti i d} (h : TOk P t ti i d) : (isAgg t).run P w = .ok ti.td.isAgg w := by
  have := h.isd
  simp only [isAgg, Sem.run_bind, run_underlying h.und, Result.andThen]
  cases htd : ti.td <;> cases d <;> simp only [htd, TD.is, Bool.false_eq_true] at this <;> rfl
theorem TOk.sizeOf {t ti i d} (h : TOk P t ti i d) : (sizeOf t).run P w = .ok ti.size w := by
  simp [Go.sizeOf, typeInfo, h.info, h.size]
theorem TOk.zeroValue {t ti i d} (h : TOk P t ti i d) : (zeroValue t).run P w = .ok ti.zeroVal w := by
  simp [Go.zeroValue, typeInfo, h.info, h.zero]
end runs

theorem TI.zero_rep {F : Cells} {m : Mem} {pl : Places} (ti : TI) : RepV F m pl ti.zeroV ti.zeroVal := by
  unfold TI.zeroV TI.zeroVal
  split
  · refine .agg _ (by simp) (fun i x h hx => ?_)
    have := repL (F := F) (m := m) (pl := pl) (ti.zero.map Z.val) i x (by simpa using h) (by simpa [List.map_map] using hx)
    simpa using this
  · split <;> first | exact .lit | exact .un

/-- Part of an aggregate: the cells from `off` on. -/
def partV (ti : TI) (cs : List V) (off : Nat) : Option V :=
  match ti.td.isAgg with
  | true => if off + ti.size ≤ cs.length then some (.agg ((cs.drop off).take ti.size)) else none
  | false => cs[off]?

def fillV (place : Nat → Option (Nat × Nat)) (cells : List V) : List (Nat × V) → Option (List V)
  | [] => some cells
  | (i, v) :: rest =>
    match place i with
    | none => none
    | some (off, size) =>
      if v.cells.length = size ∧ off + size ≤ cells.length ∧ v.cells.all scal = true then fillV place (cells.take off ++ v.cells ++ cells.drop (off + size)) rest else none

def bitV (k : IntKind) (f : BitVec k.bits → BitVec k.bits → BitVec k.bits) (x y : Int) : V :=
  .lit (.int k (k.wrap (f (BitVec.ofInt k.bits x) (BitVec.ofInt k.bits y)).toNat))

def intBinV (op : BinOp) (k : IntKind) (x y : Int) : Option V :=
  match op with
  | .add => some (.lit (.int k (k.wrap (x + y))))
  | .sub => some (.lit (.int k (k.wrap (x - y))))
  | .mul => some (.lit (.int k (k.wrap (x * y))))
  | .quo => if y = 0 then none else some (.lit (.int k (k.wrap (x.tdiv y))))
  | .rem => if y = 0 then none else some (.lit (.int k (x.tmod y)))
  | .and => some (bitV k (· &&& ·) x y)
  | .or => some (bitV k (· ||| ·) x y)
  | .xor => some (bitV k (· ^^^ ·) x y)
  | .andNot => some (bitV k (fun a b => a &&& ~~~b) x y)
  | .eql => some (.lit (.bool (x == y)))
  | .neq => some (.lit (.bool (x != y)))
  | .lss => some (.lit (.bool (x < y)))
  | .leq => some (.lit (.bool (x ≤ y)))
  | .gtr => some (.lit (.bool (x > y)))
  | .geq => some (.lit (.bool (x ≥ y)))
  | _ => none

def shiftV (op : BinOp) (k : IntKind) (x y : Int) : Option V :=
  match op with
  | .shl => if 0 ≤ y then some (.lit (.int k (k.wrap (x * 2 ^ min y.toNat k.bits)))) else none
  | .shr => if 0 ≤ y then some (.lit (.int k (x.fdiv (2 ^ min y.toNat k.bits)))) else none
  | _ => none

def strBinV (op : BinOp) (x y : ByteArray) : Option V :=
  match op with
  | .add => if ((x.size + y.size : Nat) : Int) > IntKind.i64.max then none else some (.lit (.string (x ++ y)))
  | .eql => some (.lit (.bool (x.toList == y.toList)))
  | .neq => some (.lit (.bool !(x.toList == y.toList)))
  | _ => none

def isShift : BinOp → Bool
  | .shl | .shr => true
  | _ => false

def nilV : V := .lit (.slice none 0 0)

/-- Whether two rows of fields are the same. -/
def eqFs (E : TypeId → V → V → Option Bool) (tt : TT) (xs ys : List V) : List (Nat × TypeId) → Option Bool
  | [] => some true
  | (o, t) :: fs => match tt t with
    | some ti => match partV ti xs o, partV ti ys o with
      | some a, some b => match E t a b, eqFs E tt xs ys fs with
        | some p, some q => some (p && q)
        | _, _ => none
      | _, _ => none
    | none => none
/-- Whether two values of a type are the same: numbers, and structs of such. -/
def eqV (tt : TT) : Nat → TypeId → V → V → Option Bool
  | 0, _, _, _ => none
  | d + 1, t, x, y => match tt t, x, y with
    | some ⟨.int _, _, _, _⟩, .lit (.int k a), .lit (.int k' b) => if k = k' then some (a == b) else none
    | some ⟨.struct fs, _, _, _⟩, .agg xs, .agg ys => eqFs (eqV tt d) tt xs ys fs
    | _, _, _ => none

def binV (tt : TT) (op : BinOp) (t : TypeId) (a b : V) : Option V :=
  match a, b with
  | .lit (.int k x), .lit (.int k' y) => if isShift op then shiftV op k x y else if k = k' then intBinV op k x y else none
  | .lit (.string x), .lit (.string y) => strBinV op x y
  | .lit (.bool x), .lit (.bool y) =>
    match tt t with
    | some ⟨.bool, _, _, _⟩ => match op with | .eql => some (.lit (.bool (x == y))) | .neq => some (.lit (.bool !(x == y))) | _ => none
    | _ => none
  | .lit (.slice none 0 0), .lit (.slice none 0 0) =>
    match tt t with
    | some ⟨.slice _, _, _, _⟩ => match op with | .eql => some (.lit (.bool true)) | .neq => some (.lit (.bool false)) | _ => none
    | _ => none
  | .ls _ _ _ _, .lit (.slice none 0 0) =>
    match tt t with
    | some ⟨.slice _, _, _, _⟩ => match op with | .eql => some (.lit (.bool false)) | .neq => some (.lit (.bool true)) | _ => none
    | _ => none
  | .is _ (_ :: _), .lit (.slice none 0 0) =>
    match tt t with
    | some ⟨.slice _, _, _, _⟩ => match op with | .eql => some (.lit (.bool false)) | .neq => some (.lit (.bool true)) | _ => none
    | _ => none
  | .agg xs, .agg ys => match op with
    | .eql => (eqV tt 8 t (.agg xs) (.agg ys)).map fun b => .lit (.bool b)
    | .neq => (eqV tt 8 t (.agg xs) (.agg ys)).map fun b => .lit (.bool (!b))
    | _ => none
  | _, _ => none

def unV (op : UnOp) (a : V) : Option V :=
  match op, a with
  | .neg, .lit (.int k n) => some (.lit (.int k (k.wrap (0 - n))))
  | .xor, .lit (.int k n) => some (bitV k (· ^^^ ·) (if k.signed then -1 else k.max) n)
  | .not, .lit (.bool b) => some (.lit (.bool !b))
  | _, _ => none

/-- The bounds of a cut, of what has length `len` and room `cap` (none: not known). -/
def boundsV (len : Nat) (lo hi mx : Option V) : Option (Nat × Nat) :=
  match mx with
  | some _ => none
  | none =>
    match hi with
    | some (.lit (.int _ h)) => if 0 ≤ h ∧ h ≤ len then
        match lo with
        | some (.lit (.int _ l)) => if 0 ≤ l ∧ l ≤ h then some (l.toNat, h.toNat) else none
        | none => some (0, h.toNat)
        | _ => none
      else none
    | none =>
        match lo with
        | some (.lit (.int _ l)) => if 0 ≤ l ∧ l ≤ len then some (l.toNat, len) else none
        | none => some (0, len)
        | _ => none
    | _ => none

def isZero : Option V → Bool
  | some (.lit (.int _ 0)) => true
  | _ => false

def isAbsent : Option V → Bool
  | none => true
  | _ => false

def sliceV (tt : TT) (t : TypeId) (x : V) (lo hi mx : Option V) : Option V :=
  match tt t, x with
  | some ⟨.str, _, _, _⟩, .lit (.string s) => (boundsV s.size lo hi mx).map fun b => .lit (.string (s.extract b.1 b.2))
  | some ⟨.slice e, _, _, _⟩, .is n es => match tt e with
    | some ti => if isAbsent lo && isZero mx && isZero hi then some .e0 else if ti.size = n then (boundsV es.length lo hi mx).map fun b => .is n ((es.drop b.1).take (b.2 - b.1)) else none
    | none => none
  | some ⟨.slice e, _, _, _⟩, .ls k n i len => match tt e with
    | some ti => if isAbsent lo && isZero mx && isZero hi then some .e0 else if ti.size = n then (boundsV len lo hi mx).map fun b => .ls k n (i + b.1) (b.2 - b.1) else none
    | none => none
  | some ⟨.slice e, _, _, _⟩, .lit (.slice none 0 0) => match tt e with
    | some _ => (boundsV 0 lo hi mx).map fun _ => nilV
    | none => none
  | _, _ => none
end Go.Eng

/- A machine of values for the program's code, part 3: the operations that only compute, and that they say what the program's do. -/
namespace Go.Eng
open Go.RowKit

section inv
variable {F : Cells} {m : Mem} {pl : Places} {cv : Value}
theorem RepV.lit_inv {v} (h : RepV F m pl (.lit v) cv) : cv = v := by cases h; rfl
theorem RepV.e0_inv (h : RepV F m pl .e0 cv) : ∃ a, cv = .slice a 0 0 := by cases h <;> exact ⟨_, rfl⟩
theorem RepV.lp_inv {k n i off} (h : RepV F m pl (.lp k n i off) cv) : ∃ p, pl k = some p ∧ p.n = n ∧ cv = .pointer (some ⟨p.b, p.base + i * n + off, none⟩) := by
  cases h with | lp h0 h1 => exact ⟨_, h0, h1, rfl⟩
theorem RepV.ls_inv {k n i len} (h : RepV F m pl (.ls k n i len) cv) : ∃ p a cap, pl k = some p ∧ p.n = n ∧ len ≤ cap ∧ i + cap ≤ p.C ∧ (cap ≠ 0 → a = ⟨p.b, p.base + i * n, none⟩) ∧ cv = .slice (some a) len cap := by
  cases h with | ls h0 h1 h2 h3 h4 => exact ⟨_, _, _, h0, h1, h2, h3, h4, rfl⟩
theorem RepV.agg_inv {vs} (h : RepV F m pl (.agg vs) cv) : ∃ cs : Array Value, cv = .agg cs ∧ cs.size = vs.length ∧ ∀ (i : Nat) x (hi : i < cs.size), vs[i]? = some x → RepV F m pl x cs[i] := by
  cases h with | agg cs h0 h1 => exact ⟨cs, rfl, h0, h1⟩
theorem RepV.tup_inv {vs} (h : RepV F m pl (.tup vs) cv) : ∃ cs : Array Value, cv = .tuple cs ∧ cs.size = vs.length ∧ ∀ (i : Nat) x (hi : i < cs.size), vs[i]? = some x → RepV F m pl x cs[i] := by
  cases h with | tup cs h0 h1 => exact ⟨cs, rfl, h0, h1⟩
theorem RepV.fn_inv {f vs} (h : RepV F m pl (.fn f vs) cv) : ∃ cs : Array Value, cv = .func (.func f) #[] cs ∧ cs.size = vs.length ∧ ∀ (i : Nat) x (hi : i < cs.size), vs[i]? = some x → RepV F m pl x cs[i] := by
  cases h with | fn cs h0 h1 => exact ⟨cs, rfl, h0, h1⟩
theorem RepV.ip_inv {n es i off} (h : RepV F m pl (.ip n es i off) cv) : ∃ b base, ∃ cf : Nat → Nat → Value, (∀ (j : Nat) e, es[j]? = some e → e.cells.length = n) ∧
      (∀ (j : Nat) e (c : Nat) x, es[j]? = some e → e.cells[c]? = some x → scal x = true ∧ F b (base + j * n + c) ∧ m b (base + j * n + c) = some (cf j c)) ∧
      (∀ (j : Nat) e (c : Nat) x, es[j]? = some e → e.cells[c]? = some x → RepV F m noPl x (cf j c)) ∧ cv = .pointer (some ⟨b, base + i * n + off, none⟩) := by
  cases h with | ip cf h0 h1 h2 => exact ⟨_, _, cf, h0, h1, h2, rfl⟩
theorem RepV.is_inv {n es} (h : RepV F m pl (.is n es) cv) : (es = [] ∧ cv = .slice none 0 0) ∨ ∃ a cap, ∃ cf : Nat → Nat → Value, es.length ≤ cap ∧ (es ≠ [] → a.spot = none) ∧ (∀ (j : Nat) e, es[j]? = some e → e.cells.length = n) ∧
      (∀ (j : Nat) e (c : Nat) x, es[j]? = some e → e.cells[c]? = some x → scal x = true ∧ F a.block (a.off + j * n + c) ∧ m a.block (a.off + j * n + c) = some (cf j c)) ∧
      (∀ (j : Nat) e (c : Nat) x, es[j]? = some e → e.cells[c]? = some x → RepV F m noPl x (cf j c)) ∧ cv = .slice (some a) es.length cap := by
  cases h with
  | is cf h0 h00 h1 h2 h3 => exact .inr ⟨_, _, cf, h0, h00, h1, h2, h3, rfl⟩
  | isn => exact .inl ⟨rfl, rfl⟩
end inv

theorem add_none (b o n : Nat) : (⟨b, o, none⟩ : Addr).add n = ⟨b, o + n, none⟩ := by
  unfold Addr.add; split <;> simp_all

def placeV (tt : TT) (fs : List (Nat × TypeId)) (i : Nat) : Option (Nat × Nat) :=
  match fs[i]? with
  | some (off, t) => (tt t).map fun ti => (off, ti.size)
  | none => none

/-- What a load of type t gives, of an element's cells. -/
def loadV (ti : TI) (e : V) (off : Nat) : Option V := partV ti e.cells off

def lenV (tt : TT) (t : TypeId) (x : V) : Option V :=
  match tt t, x with
  | some ⟨.str, _, _, _⟩, .lit (.string s) => some (.lit (.int .i64 s.size))
  | some ⟨.slice _, _, _, _⟩, .is _ es => some (.lit (.int .i64 es.length))
  | some ⟨.slice _, _, _, _⟩, .ls _ _ _ len => some (.lit (.int .i64 len))
  | some ⟨.slice _, _, _, _⟩, .lit (.slice none 0 0) => some (.lit (.int .i64 (0 : Nat)))
  | some ⟨.slice _, _, _, _⟩, .e0 => some (.lit (.int .i64 (0 : Nat)))
  | _, _ => none

def capV (tt : TT) (t : TypeId) (x : V) : Option V :=
  match tt t, x with
  | some ⟨.slice _, _, _, _⟩, .lit (.slice none 0 0) => some (.lit (.int .i64 (0 : Nat)))
  | _, _ => none

def builtinV (tt : TT) (b : Builtin) (ts : List TypeId) (vs : List V) : Option V :=
  match b, ts, vs with
  | .len, [t], [x] => lenV tt t x
  | .cap, [t], [x] => capV tt t x
  | .min, _, [.lit (.int k x), .lit (.int _ y)] => some (.lit (.int k (if y < x then y else x)))
  | .max, _, [.lit (.int k x), .lit (.int _ y)] => some (.lit (.int k (if y > x then y else x)))
  | _, _, _ => none

def pureF (tt : TT) (op : Op) (μ : Operand → V) : Option V :=
  match op with
  | .move x => some (μ x)
  | .assign x => some (μ x)
  | .pick c a b => match μ c with
    | .lit (.bool c) => if c = true then some (μ a) else some (μ b)
    | _ => none
  | .build t parts => match tt t with
    | some ti => match ti.td with
      | .struct fs => if fs.all (fun x => (tt x.2).isSome) = true then (fillV (placeV tt fs) (ti.zero.map fun z => .lit z.val) (parts.toList.map fun p => (p.1, μ p.2))).map .agg else none
      | _ => none
    | none => none
  | .nilCheck x => match μ x with
    | .lp k n i o => some (.lp k n i o)
    | .ip n es i o => some (.ip n es i o)
    | .fn f cs => some (.fn f cs)
    | _ => none
  | .load t a => match tt t, μ a with
    | some ti, .ip _ es i off => match es[i]? with
      | some e => loadV ti e off
      | none => none
    | _, _ => none
  | .binOp op t x y _ => binV tt op t (μ x) (μ y)
  | .unOp op _ x => unV op (μ x)
  | .convert src dst x => match tt src, tt dst, μ x with
    | some ⟨.int _, _, _, _⟩, some ⟨.int k, _, _, _⟩, .lit (.int _ n) => some (.lit (.int k (k.wrap n)))
    | some ⟨.str, _, _, _⟩, some ⟨.str, _, _, _⟩, .lit (.string s) => some (.lit (.string s))
    | _, _, _ => none
  | .makeFunc (.func f) first cap => if first.size = 0 then some (.fn f (cap.toList.map μ)) else none
  | .slice t x lo hi mx => sliceV tt t (μ x) (lo.map μ) (hi.map μ) (mx.map μ)
  | .fieldAddr s x f => match tt s with
    | some ⟨.struct fs, _, _, _⟩ => match fs[f]? with
      | some (off, ft) => match tt ft with
        | some fi => if fi.size = 0 then none else match μ x with
          | .lp k n i o => some (.lp k n i (o + off))
          | .ip n es i o => some (.ip n es i (o + off))
          | _ => none
        | none => none
      | none => none
    | _ => none
  | .field s x f => match tt s with
    | some ⟨.struct fs, _, _, _⟩ => match fs[f]? with
      | some (off, ft) => match tt ft with
        | some fi => match μ x with
          | .agg cs => partV fi cs off
          | _ => none
        | none => none
      | none => none
    | _ => none
  | .indexAddr t x ix => match tt t with
    | some ⟨.slice e, _, _, _⟩ => match tt e with
      | some ei => match μ x, μ ix with
        | .is n es, .lit (.int _ i) => if ei.size = n ∧ 0 ≤ i ∧ i < es.length then some (.ip n es i.toNat 0) else none
        | .ls k n i0 len, .lit (.int _ i) => if ei.size = n ∧ 0 ≤ i ∧ i < len then some (.lp k n (i0 + i.toNat) 0) else none
        | _, _ => none
      | none => none
    | _ => none
  | .index t x ix => match tt t, μ x, μ ix with
    | some ⟨.str, _, _, _⟩, .lit (.string s), .lit (.int _ i) => match (if 0 ≤ i then s[i.toNat]? else none) with
      | some b => some (.lit (.int .u8 b.toNat))
      | none => none
    | _, _, _ => none
  | .extract x i => match μ x with
    | .tup vs => vs[i]?
    | _ => none
  | .call { callee := .builtin b, args, argTypes } => builtinV tt b argTypes.toList (args.toList.map μ)
  | _ => none

section sound
variable {P : Program} {tt : TT} {F : Cells} {w : World} {pl : Places} {ρ : Operand → Value} {μ : Operand → V}

theorem rep_part {m : Mem} {t : TypeId} {ti : TI} {i : TypeInfo} {d : TypeDesc} (hk : TOk P t ti i d) {cs : List V} {ca : Array Value} (hs : ca.size = cs.length)
    (hr : ∀ (i : Nat) x (hi : i < ca.size), cs[i]? = some x → RepV F m pl x ca[i]) {off : Nat} {v : V} (h : partV ti cs off = some v) :
    ∃ cv, (part t ca off).run P w = .ok cv w ∧ RepV F m pl v cv := by
  unfold partV at h
  simp only [part, Sem.run_bind, hk.agg w, Result.andThen]
  split at h
  · rename_i ha
    split at h
    · rename_i hle
      cases h
      refine ⟨_, by simp [ha, hk.sizeOf]; rfl, .agg _ (by simp; omega) (fun j x hj hx => ?_)⟩
      simp only [List.getElem?_take, List.getElem?_drop] at hx
      split at hx
      · have hj' : off + j < ca.size := by simp at hj; omega
        have := hr (off + j) x hj' hx
        simpa using this
      · cases hx
    · cases h
  · rename_i ha
    obtain ⟨h1, h2⟩ := List.getElem?_eq_some_iff.1 h
    have h1' : off < ca.size := by omega
    exact ⟨ca[off], by simp [ha, h1'], hr off v h1' h⟩

theorem rep_one {m : Mem} {v : V} {cv : Value} (h : RepV F m pl v cv) (hs : scal v = true) : cv.oneCell' = true ∧ cv.cells = #[cv] ∧ v.cells = [v] := by
  cases h with
  | un => simp [scal] at hs
  | agg cs h0 h1 => simp [scal] at hs
  | tup cs h0 h1 => simp [scal] at hs
  | lit => cases cv <;> simp [scal] at hs <;> exact ⟨rfl, rfl, rfl⟩
  | e0 => exact ⟨rfl, rfl, rfl⟩
  | e0n => exact ⟨rfl, rfl, rfl⟩
  | isn => exact ⟨rfl, rfl, rfl⟩
  | lp h0 h1 => exact ⟨rfl, rfl, rfl⟩
  | ls h0 h1 h2 h3 h4 => exact ⟨rfl, rfl, rfl⟩
  | ip cf h0 h1 h2 => exact ⟨rfl, rfl, rfl⟩
  | is cf h0 h00 h1 h2 h3 => exact ⟨rfl, rfl, rfl⟩
  | fn cs h0 h1 => exact ⟨rfl, rfl, rfl⟩

theorem rep_cells {m : Mem} {v : V} {cv : Value} (h : RepV F m pl v cv) (hs : v.cells.all scal = true) :
    ∃ vc : Array Value, cv.cells = vc ∧ vc.size = v.cells.length ∧ ∀ (j : Nat) y (hj : j < vc.size), v.cells[j]? = some y → RepV F m pl y vc[j] := by
  by_cases ha : ∃ cs, v = .agg cs
  · obtain ⟨cs, rfl⟩ := ha
    obtain ⟨ca, rfl, h1, h2⟩ := h.agg_inv
    exact ⟨ca, rfl, h1, h2⟩
  · have hv : v.cells = [v] := by cases v <;> first | rfl | exact absurd ⟨_, rfl⟩ ha
    rw [hv] at hs
    obtain ⟨_, h2, _⟩ := rep_one h (by simpa using hs)
    refine ⟨#[cv], h2, by rw [hv]; rfl, fun j y hj hy => ?_⟩
    simp at hj; subst hj
    rw [hv] at hy
    simp only [List.getElem?_cons_zero, Option.some.injEq] at hy; subst hy
    exact h

theorem run_fill {m : Mem} {place placeC : Nat → Option (Nat × Nat)} (hp : ∀ i x, place i = some x → placeC i = some x) : ∀ (ps : List (Nat × Operand)) {cells : List V} {ca : Array Value} {out : List V},
    ca.size = cells.length → (∀ (i : Nat) x (hi : i < ca.size), cells[i]? = some x → RepV F m pl x ca[i]) → (∀ x, RepV F m pl (μ x) (ρ x)) →
    fillV place cells (ps.map fun p => (p.1, μ p.2)) = some out →
    ∃ ca', Instr.fill placeC ca (ps.map fun p => (p.1, ρ p.2)) = some ca' ∧ ca'.size = out.length ∧ ∀ (i : Nat) x (hi : i < ca'.size), out[i]? = some x → RepV F m pl x ca'[i] := by
  intro ps
  induction ps with
  | nil => intro cells ca out hs hr _ h; simp only [List.map_nil, fillV, Option.some.injEq] at h; subst h; exact ⟨ca, rfl, hs, hr⟩
  | cons p ps ih =>
    intro cells ca out hs hr hρ h
    obtain ⟨i, x⟩ := p
    simp only [List.map_cons, fillV] at h
    split at h
    · cases h
    · rename_i off size hpi
      split at h
      · rename_i hc
        obtain ⟨hc1, hc2, hc3⟩ := hc
        -- the value's cells
        have hcells := rep_cells (hρ x) hc3
        obtain ⟨vc, hvc, hvs, hvr⟩ := hcells
        have hpc := hp i (off, size) hpi
        simp only [List.map_cons, Instr.fill, hpc, hvc]
        rw [if_neg (by simp; omega)]
        have key : ∀ (k : Nat) (cur : Array Value), k ≤ vc.size → cur.size = ca.size → 
            (vc.zipIdx.foldl (fun cs (c, j) => cs.setIfInBounds (off + j) c) ca).size = ca.size ∧ ∀ (j : Nat), (vc.zipIdx.foldl (fun cs (c, j) => cs.setIfInBounds (off + j) c) ca)[j]? = if off ≤ j ∧ j < off + vc.size then vc[j - off]? else ca[j]? := by
          intro _ _ _ _
          have gen : ∀ (l : List Value) (s : Nat) (cur : Array Value), off + s + l.length ≤ cur.size →
              ((l.zipIdx s).foldl (fun cs (c, j) => cs.setIfInBounds (off + j) c) cur).size = cur.size ∧
              ∀ (j : Nat), ((l.zipIdx s).foldl (fun cs (c, j) => cs.setIfInBounds (off + j) c) cur)[j]? = if off + s ≤ j ∧ j < off + s + l.length then l[j - (off + s)]? else cur[j]? := by
            intro l
            induction l with
            | nil => intro s cur _; exact ⟨rfl, fun j => by simp; omega⟩
            | cons y t iht =>
              intro s cur hle
              simp only [List.zipIdx_cons, List.foldl_cons]
              simp only [List.length_cons] at hle
              obtain ⟨e1, e2⟩ := iht (s + 1) (cur.setIfInBounds (off + s) y) (by simp; omega)
              refine ⟨by rw [e1]; simp, fun j => ?_⟩
              rw [e2]
              by_cases hj : j = off + s
              · subst hj
                have hlt : off + s < cur.size := by omega
                rw [if_neg (by omega), if_pos (by simp)]
                simp [hlt]
              · by_cases hr : off + (s + 1) ≤ j ∧ j < off + (s + 1) + t.length
                · rw [if_pos hr, if_pos (by simp; omega)]
                  rw [show j - (off + s) = (j - (off + (s + 1))) + 1 by omega]
                  simp
                · rw [if_neg hr, if_neg (by simp; omega), Array.getElem?_setIfInBounds_ne (by omega)]
          have := gen vc.toList 0 ca (by simp; omega)
          rw [← Array.foldl_toList, Array.toList_zipIdx]
          simpa using this
        obtain ⟨k1, k2⟩ := key 0 ca (Nat.zero_le _) rfl
        refine ih (out := out) (cells := cells.take off ++ (μ x).cells ++ cells.drop (off + size)) ?_ ?_ hρ h
        · rw [k1]; simp; omega
        · intro j y hj hy
          have hget := k2 j
          rw [Array.getElem?_eq_getElem hj] at hget
          by_cases hj1 : off ≤ j ∧ j < off + vc.size
          · rw [if_pos hj1] at hget
            rw [List.append_assoc, List.getElem?_append_right (by simp; omega), List.getElem?_append_left (by simp; omega)] at hy
            have hj2 : j - off < vc.size := by omega
            rw [Array.getElem?_eq_getElem hj2] at hget
            have e := Option.some.inj hget
            rw [e]
            refine hvr (j - off) y hj2 ?_
            rw [← hy]; congr 1; simp; omega
          · rw [if_neg hj1] at hget
            have hjc : j < ca.size := by rw [k1] at hj; exact hj
            rw [Array.getElem?_eq_getElem hjc] at hget
            have e := Option.some.inj hget
            rw [e]
            refine hr j y hjc ?_
            rw [← hy]
            by_cases hlo : j < off
            · rw [List.append_assoc, List.getElem?_append_left (by simp; omega)]
              simp [hlo]
            · rw [List.getElem?_append_right (by simp; omega)]
              simp only [List.length_append, List.length_take, List.getElem?_drop]
              congr 1; omega
      · cases h
end sound
end Go.Eng

/- A machine of values for the program's code, part 4: the operations that only compute say what the program's do. -/
namespace Go.Eng
open Go.RowKit

section sound
variable {P : Program} {tt : TT} {F : Cells} {w : World} {pl : Places} {ρ : Operand → Value} {μ : Operand → V}

theorem TOk.struct {t : TypeId} {fs : List (Nat × TypeId)} {s b : Nat} {z : List Z} {i : TypeInfo} {d : TypeDesc} (h : TOk P t ⟨.struct fs, s, b, z⟩ i d) :
    ∃ fields : Array Field, P.underlying t = some (.struct fields) ∧ ∀ (k off : Nat) (ft : TypeId), fs[k]? = some (off, ft) → ∃ f : Field, fields[k]? = some f ∧ f.offset = off ∧ f.type = ft := by
  have := h.isd
  cases d <;> simp only [TD.is, Bool.false_eq_true] at this
  rename_i fields
  refine ⟨fields, h.und, fun k off ft hk => ?_⟩
  rw [eq_of_beq this] at hk
  simp only [List.getElem?_map, Option.map_eq_some_iff, Array.getElem?_toList] at hk
  obtain ⟨f, hf, he⟩ := hk
  cases he
  exact ⟨f, hf, rfl, rfl⟩

theorem TOk.slice {t e : TypeId} {s b : Nat} {z : List Z} {i : TypeInfo} {d : TypeDesc} (h : TOk P t ⟨.slice e, s, b, z⟩ i d) : P.underlying t = some (.slice e) := by
  have := h.isd
  cases d <;> simp only [TD.is, Bool.false_eq_true] at this
  rw [eq_of_beq this]; exact h.und

theorem TOk.str {t : TypeId} {s b : Nat} {z : List Z} {i : TypeInfo} {d : TypeDesc} (h : TOk P t ⟨.str, s, b, z⟩ i d) : P.underlying t = some .string := by
  have := h.isd
  cases d <;> simp only [TD.is, Bool.false_eq_true] at this
  exact h.und

theorem TOk.int {t : TypeId} {k : IntKind} {s b : Nat} {z : List Z} {i : TypeInfo} {d : TypeDesc} (h : TOk P t ⟨.int k, s, b, z⟩ i d) : P.underlying t = some (.int k) := by
  have := h.isd
  cases d <;> simp only [TD.is, Bool.false_eq_true] at this
  rw [eq_of_beq this]; exact h.und

theorem TOk.bool {t : TypeId} {s b : Nat} {z : List Z} {i : TypeInfo} {d : TypeDesc} (h : TOk P t ⟨.bool, s, b, z⟩ i d) : P.underlying t = some .bool := by
  have := h.isd
  cases d <;> simp only [TD.is, Bool.false_eq_true] at this
  exact h.und

theorem run_eqGuard_plain (op : BinOp) (t : TypeId) (x y : Operand) (a b : Value) (h : a.oneCell' = true) (h2 : a ≠ .nilIface) : (eqGuard op t x y a b).run P w = .ok () w := by
  unfold eqGuard
  cases op <;> cases a <;> simp [Value.oneCell'] at h h2 ⊢

theorem run_equal_of {t : TypeId} {x y : Value} {b : Bool} (h : ∀ d, (Op.equalIn (d + 1) t x y).run P w = .ok b w) : (Op.equal t x y).run P w = .ok b w := h 9999

theorem run_eq_bool {t : TypeId} (hu : P.underlying t = some .bool) (x y : Bool) : (Op.equal t (.bool x) (.bool y)).run P w = .ok (x == y) w :=
  run_equal_of fun d => by simp [Op.equalIn, run_underlying hu, Result.andThen]
theorem run_eq_nil {t e : TypeId} (hu : P.underlying t = some (.slice e)) (a : Option Addr) (l c : Nat) : (Op.equal t (.slice a l c) (.slice none 0 0)).run P w = .ok a.isNone w :=
  run_equal_of fun d => by cases a <;> simp [Op.equalIn, run_underlying hu, Result.andThen]

theorem TOk.structEq {t : TypeId} {fs : List (Nat × TypeId)} {s b : Nat} {z : List Z} {i : TypeInfo} {d : TypeDesc} (h : TOk P t ⟨.struct fs, s, b, z⟩ i d) :
    P.underlying t = some (.struct (P.fieldsOf t)) ∧ fs = (P.fieldsOf t).toList.map (fun f => (f.offset, f.type)) ∧ P.stoodInHeld t = false ∧ (∀ f ∈ (P.fieldsOf t).toList, f.name ≠ "_") ∧ P.eqGuardType P.depth t = false := by
  have h1 := h.isd
  have h2 := h.eqp
  have h3 := h.und
  cases d <;> simp only [TD.is, Bool.false_eq_true] at h1
  rename_i fields
  have e : P.fieldsOf t = fields := by unfold Program.fieldsOf; rw [h3]
  simp only [eqPlain, Bool.and_eq_true, Bool.not_eq_true', List.all_eq_true, bne_iff_ne, ne_eq] at h2
  rw [e]
  exact ⟨h3, eq_of_beq h1, h2.1.1, h2.1.2, h2.2⟩

theorem eqV_sound (htt : TTok P tt) : ∀ (d : Nat) {t : TypeId} {x y : V} {b : Bool}, eqV tt d t x y = some b → ∀ (D : Nat) {cx cy : Value}, RepV F (memOf w) pl x cx → RepV F (memOf w) pl y cy → (Op.equalIn (d + D) t cx cy).run P w = .ok b w
  | 0, _, _, _, _, h, _, _, _, _, _ => by simp [eqV] at h
  | d + 1, t, x, y, b, h, D, cx, cy, hx, hy => by
    unfold eqV at h
    rw [show d + 1 + D = (d + D) + 1 by omega]
    split at h
    · rename_i hti
      cases hx.lit_inv; cases hy.lit_inv
      obtain ⟨i, td, hk⟩ := htt.get hti
      split at h
      · rename_i hkk
        subst hkk
        cases h
        exact run_equalIn_int w _ _ _ _ _ _ hk.int
      · cases h
    · rename_i fs _ _ _ xs ys hti
      obtain ⟨i, td, hk⟩ := htt.get hti
      obtain ⟨g1, g2, g3, g4, _⟩ := hk.structEq
      cases hx with | agg ca ha0 ha1 =>
      cases hy with | agg cb hb0 hb1 =>
      rw [run_equalIn_struct w _ _ _ _ g1 g3]
      rw [g2] at h
      generalize (P.fieldsOf t).toList = fields at h g4
      clear g1 g2 g3 hk hti
      induction fields generalizing b with
      | nil => simp only [List.map_nil, eqFs, Option.some.injEq] at h; subst h; rfl
      | cons f fields ih =>
        simp only [List.map_cons, eqFs] at h
        split at h <;> try contradiction
        rename_i ti hft
        obtain ⟨i2, d2, hk2⟩ := htt.get hft
        split at h <;> try contradiction
        rename_i va vb hva hvb
        split at h <;> try contradiction
        rename_i p q hp hq
        cases h
        obtain ⟨c1, r1, s1⟩ := rep_part (w := w) hk2 ha0 ha1 hva
        obtain ⟨c2, r2, s2⟩ := rep_part (w := w) hk2 hb0 hb1 hvb
        have r3 := eqV_sound htt d hp D s1 s2
        simp only [Op.eqFields]
        rw [if_pos (g4 f List.mem_cons_self)]
        simp only [Sem.run_bind, r1, r2, r3, Result.andThen_ok]
        cases p
        · simp
        · simp only [Bool.not_true, Bool.false_eq_true, if_false, Bool.true_and]
          exact ih _ hq fun g hg => g4 g (List.mem_cons_of_mem _ hg)
    · cases h

theorem binV_sound {op : BinOp} {t : TypeId} {a b : V} {ca cb : Value} {v : V} (htt : TTok P tt) (ha : RepV F (memOf w) pl a ca) (hb : RepV F (memOf w) pl b cb) (x y : Operand)
    (h : binV tt op t a b = some v) : ∃ cv, (eqGuard op t x y ca cb).run P w = .ok () w ∧ (binOp op t ca cb).run P w = .ok cv w ∧ RepV F (memOf w) pl v cv := by
  unfold binV at h
  split at h
  · -- numbers
    rename_i k x' k' y'
    cases ha.lit_inv; cases hb.lit_inv
    refine Exists.imp (fun cv hc => ⟨run_eqGuard_plain _ _ _ _ _ _ rfl (by simp), hc⟩) ?_
    split at h
    · rename_i hs
      cases op <;> simp only [isShift, Bool.false_eq_true] at hs
      all_goals
        simp only [shiftV] at h
        split at h
        · rename_i hy
          cases h
          exact ⟨_, by simp only [binOp, Op.shift]; rw [if_neg (by omega)]; rfl, .lit⟩
        · cases h
    · rename_i hs
      split at h
      · rename_i hk
        subst hk
        cases op <;> simp only [isShift, not_true_eq_false] at hs <;> simp only [intBinV, Option.some.injEq] at h
        case quo =>
          split at h
          · cases h
          · rename_i hy
            cases h
            exact ⟨_, by simp only [binOp, ne_eq, not_true_eq_false, if_false, Op.intDiv]; rw [if_neg hy]; rfl, .lit⟩
        case rem =>
          split at h
          · cases h
          · rename_i hy
            cases h
            exact ⟨_, by simp only [binOp, ne_eq, not_true_eq_false, if_false, Op.intDiv]; rw [if_neg hy]; rfl, .lit⟩
        all_goals
          cases h
          refine ⟨_, ?_, .lit⟩
          simp only [binOp, ne_eq, not_true_eq_false, if_false]
          rfl
      · cases h
  · -- strings
    cases ha.lit_inv; cases hb.lit_inv
    refine Exists.imp (fun cv hc => ⟨run_eqGuard_plain _ _ _ _ _ _ rfl (by simp), hc⟩) ?_
    cases op <;> simp only [strBinV, Option.some.injEq, reduceCtorEq] at h
    case add =>
      split at h
      · cases h
      · rename_i hy
        cases h
        refine ⟨_, ?_, .lit⟩
        simp only [binOp, Op.stringOp]
        rw [if_neg hy]; rfl
    all_goals
      cases h
      exact ⟨_, by simp only [binOp, Op.stringOp]; rfl, .lit⟩
  · -- truth values
    cases ha.lit_inv; cases hb.lit_inv
    refine Exists.imp (fun cv hc => ⟨run_eqGuard_plain _ _ _ _ _ _ rfl (by simp), hc⟩) ?_
    split at h
    · rename_i ht
      obtain ⟨i, d, hk⟩ := htt.get ht
      have hu := hk.bool
      cases op <;> simp only [reduceCtorEq] at h
      all_goals
        cases h
        exact ⟨_, by simp only [binOp, Sem.run_bind, run_eq_bool hu, Result.andThen]; rfl, .lit⟩
    · cases h
  · -- nil slices
    cases ha.lit_inv; cases hb.lit_inv
    refine Exists.imp (fun cv hc => ⟨run_eqGuard_plain _ _ _ _ _ _ rfl (by simp), hc⟩) ?_
    split at h
    · rename_i ht
      obtain ⟨i, d, hk⟩ := htt.get ht
      have hu := hk.slice
      cases op <;> simp only [reduceCtorEq] at h
      all_goals
        cases h
        exact ⟨_, by simp only [binOp, Sem.run_bind, run_eq_nil hu, Result.andThen]; rfl, .lit⟩
    · cases h
  · cases hb.lit_inv
    obtain ⟨p, a', cap, _, _, _, _, _, rfl⟩ := ha.ls_inv
    refine Exists.imp (fun cv hc => ⟨run_eqGuard_plain _ _ _ _ _ _ rfl (by simp), hc⟩) ?_
    split at h
    · rename_i ht
      obtain ⟨i, d, hk⟩ := htt.get ht
      have hu := hk.slice
      cases op <;> simp only [reduceCtorEq] at h
      all_goals
        cases h
        exact ⟨_, by simp only [binOp, Sem.run_bind, run_eq_nil hu, Result.andThen]; rfl, .lit⟩
    · cases h
  · cases hb.lit_inv
    obtain ⟨h0, _⟩ | ⟨a', cap, cf, _, _, _, _, _, rfl⟩ := ha.is_inv
    · cases h0
    refine Exists.imp (fun cv hc => ⟨run_eqGuard_plain _ _ _ _ _ _ rfl (by simp), hc⟩) ?_
    split at h
    · rename_i ht
      obtain ⟨i, d, hk⟩ := htt.get ht
      have hu := hk.slice
      cases op <;> simp only [reduceCtorEq] at h
      all_goals
        cases h
        exact ⟨_, by simp only [binOp, Sem.run_bind, run_eq_nil hu, Result.andThen]; rfl, .lit⟩
    · cases h
  · -- structs
    rename_i xs ys
    have go : ∀ {b : Bool}, eqV tt 8 t (.agg xs) (.agg ys) = some b → (eqGuard op t x y ca cb).run P w = .ok () w ∧ (Op.equalIn 10000 t ca cb).run P w = .ok b w := fun {b} hb' => by
      have := eqV_sound htt 8 hb' 9992 ha hb
      cases ha with | agg ca ha0 ha1 =>
      cases hb with | agg cb hb0 hb1 =>
      refine ⟨run_eqGuard_agg w _ _ _ _ _ _ ?_, this⟩
      unfold eqV at hb'
      split at hb'
      · rename_i h1 _; cases h1
      · rename_i hti _ _
        obtain ⟨i, td, hk⟩ := htt.get hti
        exact hk.structEq.2.2.2.2
      · cases hb'
    cases op <;> simp only [reduceCtorEq] at h
    all_goals
      obtain ⟨b, hb', e⟩ := Option.map_eq_some_iff.1 h
      cases e
      obtain ⟨g1, g2⟩ := go hb'
      cases ha with | agg ca ha0 ha1 =>
      cases hb with | agg cb hb0 hb1 =>
      first
        | exact ⟨_, g1, by rw [run_eql_struct, g2]; rfl, .lit⟩
        | exact ⟨_, g1, by rw [run_neq_struct, g2]; rfl, .lit⟩
  · cases h

theorem unV_sound {op : UnOp} {a : V} {ca : Value} {v : V} (ha : RepV F (memOf w) pl a ca) (h : unV op a = some v) : ∃ cv, (Op.unary op ca).run P w = .ok cv w ∧ RepV F (memOf w) pl v cv := by
  unfold unV at h
  split at h
  all_goals first
    | (cases ha.lit_inv; cases h; exact ⟨_, by simp only [Op.unary]; rfl, .lit⟩)
    | cases h

theorem run_sliceBound {k : IntKind} {i : Int} {y : Nat} {c : BoundsCode} (h : 0 ≤ i ∧ i ≤ (y : Int)) : (Instr.sliceBound (.int k i) y c).run P w = .ok i.toNat w := by
  simp only [Instr.sliceBound, asIntOf, Sem.run_bind, Sem.run_pure, Result.andThen]
  rw [if_pos h]; rfl

theorem bounds_sound {s : Bool} {len cap : Nat} (hc : len ≤ cap) {lo hi mx : Option V} {clo chi cmx : Option Value} {b : Nat × Nat}
    (hlo : ∀ v, lo = some v → ∃ cv, clo = some cv ∧ RepV F (memOf w) pl v cv) (hhi : ∀ v, hi = some v → ∃ cv, chi = some cv ∧ RepV F (memOf w) pl v cv)
    (nlo : lo = none → clo = none) (nhi : hi = none → chi = none) (nmx : mx = none → cmx = none) (h : boundsV len lo hi mx = some b) :
    (Instr.sliceBounds s len cap clo chi cmx).run P w = .ok (b.1, b.2, cap) w ∧ b.1 ≤ b.2 ∧ b.2 ≤ len := by
  unfold boundsV at h
  split at h
  · cases h
  · cases nmx rfl
    split at h
    · rename_i k hh
      obtain ⟨cv, rfl, hr⟩ := hhi _ rfl
      cases hr.lit_inv
      split at h
      · rename_i hb
        split at h
        · rename_i k' ll
          obtain ⟨cv, rfl, hr⟩ := hlo _ rfl
          cases hr.lit_inv
          split at h
          · rename_i hl
            cases h
            refine ⟨?_, by simp; omega, by simp; omega⟩
            have h1 : (0 ≤ hh ∧ hh ≤ (cap : Int)) := ⟨hb.1, by omega⟩
            have h2 : (0 ≤ ll ∧ ll ≤ ((hh.toNat : Nat) : Int)) := ⟨hl.1, by omega⟩
            simp [Instr.sliceBounds, run_sliceBound h1, run_sliceBound h2, Result.andThen]
          · cases h
        · cases nlo rfl
          cases h
          refine ⟨?_, by simp, by simp; omega⟩
          have h1 : (0 ≤ hh ∧ hh ≤ (cap : Int)) := ⟨hb.1, by omega⟩
          simp [Instr.sliceBounds, run_sliceBound h1, Result.andThen]
        · cases h
      · cases h
    · cases nhi rfl
      split at h
      · rename_i k' ll
        obtain ⟨cv, rfl, hr⟩ := hlo _ rfl
        cases hr.lit_inv
        split at h
        · rename_i hl
          cases h
          refine ⟨?_, by simp; omega, by simp⟩
          have h2 : (0 ≤ ll ∧ ll ≤ (len : Int)) := hl
          simp [Instr.sliceBounds, run_sliceBound h2, Result.andThen]
        · cases h
      · cases nlo rfl
        cases h
        exact ⟨by simp [Instr.sliceBounds], by simp, by simp⟩
      · cases h
    · cases h

theorem sliceV_sound {t : TypeId} {x : V} {cx : Value} {lo hi mx : Option V} {clo chi cmx : Option Value} {v : V} (htt : TTok P tt) (hx : RepV F (memOf w) pl x cx)
    (hlo : ∀ v, lo = some v → ∃ cv, clo = some cv ∧ RepV F (memOf w) pl v cv) (hhi : ∀ v, hi = some v → ∃ cv, chi = some cv ∧ RepV F (memOf w) pl v cv)
    (hmx0 : ∀ v, mx = some v → ∃ cv, cmx = some cv ∧ RepV F (memOf w) pl v cv)
    (nlo : lo = none → clo = none) (nhi : hi = none → chi = none) (nmx : mx = none → cmx = none) (h : sliceV tt t x lo hi mx = some v) :
    ∃ cv, (Instr.sliceAt t cx clo chi cmx).run P w = .ok cv w ∧ RepV F (memOf w) pl v cv := by
  by_cases h0 : (isAbsent lo && isZero mx && isZero hi) = true
  · simp only [Bool.and_eq_true] at h0
    obtain ⟨⟨g1, g3⟩, g2⟩ := h0
    have zero : ∀ {o : Option V}, isZero o = true → ∃ k, o = some (.lit (.int k 0)) := by
      intro o ho
      unfold isZero at ho
      split at ho
      · exact ⟨_, rfl⟩
      · cases ho
    have hlo0 : lo = none := by cases lo <;> simp [isAbsent] at g1; rfl
    subst hlo0
    obtain ⟨k1, rfl⟩ := zero g2
    obtain ⟨k2, rfl⟩ := zero g3
    cases nlo rfl
    obtain ⟨c1, rfl, hc1⟩ := hhi _ rfl
    obtain ⟨c2, rfl, hc2⟩ := hmx0 _ rfl
    cases hc1.lit_inv; cases hc2.lit_inv
    have hb : ∀ (len cap : Nat), (Instr.sliceBounds true len cap none (some (.int k1 0)) (some (.int k2 0))).run P w = .ok (0, 0, 0) w := by
      intro len cap
      have b1 : (0 : Int) ≤ 0 ∧ (0 : Int) ≤ (cap : Int) := ⟨by omega, by omega⟩
      have b2 : (0 : Int) ≤ 0 ∧ (0 : Int) ≤ ((0 : Nat) : Int) := ⟨by omega, by omega⟩
      have r1 := run_sliceBound (P := P) (w := w) (k := k2) (c := .slice3Acap) b1
      have r2 := run_sliceBound (P := P) (w := w) (k := k1) (c := .slice3B) b2
      simp [Instr.sliceBounds, r1, r2]
    unfold sliceV at h
    split at h
    · simp [boundsV] at h
    · rename_i ht
      obtain ⟨i, d, hk⟩ := htt.get ht
      split at h
      · rename_i hte
        obtain ⟨i', d', hke⟩ := htt.get hte
        simp only [isAbsent, isZero, Bool.and_self, if_true, Option.some.injEq] at h; subst h
        obtain ⟨_, rfl⟩ | ⟨a, cap, cf, _, _, _, _, _, rfl⟩ := hx.is_inv
        · refine ⟨.slice none 0 0, ?_, .e0n⟩
          simp only [Instr.sliceAt, Sem.run_bind, run_underlying hk.slice, Result.andThen, Instr.slice, hb, hke.sizeOf]
          rfl
        · refine ⟨.slice (some a) 0 0, ?_, .e0⟩
          simp only [Instr.sliceAt, Sem.run_bind, run_underlying hk.slice, Result.andThen, Instr.slice, hb, hke.sizeOf]
          rfl
      · cases h
    · rename_i ht
      obtain ⟨i, d, hk⟩ := htt.get ht
      obtain ⟨p, a, cap, _, _, _, _, _, rfl⟩ := hx.ls_inv
      split at h
      · rename_i hte
        obtain ⟨i', d', hke⟩ := htt.get hte
        simp only [isAbsent, isZero, Bool.and_self, if_true, Option.some.injEq] at h; subst h
        refine ⟨.slice (some a) 0 0, ?_, .e0⟩
        simp only [Instr.sliceAt, Sem.run_bind, run_underlying hk.slice, Result.andThen, Instr.slice, hb, hke.sizeOf]
        rfl
      · cases h
    · split at h <;> simp [boundsV] at h
    · cases h
  have h0' : (isAbsent lo && isZero mx && isZero hi) = false := by simpa using h0
  have hmx : mx = none := by
    cases mx with
    | none => rfl
    | some m =>
      exfalso
      unfold sliceV at h
      simp only [h0', Bool.false_eq_true, if_false] at h
      split at h
      · simp [boundsV] at h
      · split at h
        · split at h <;> simp [boundsV] at h
        · cases h
      · split at h
        · split at h <;> simp [boundsV] at h
        · cases h
      · split at h <;> simp [boundsV] at h
      · cases h
  have cmx0 := nmx hmx
  unfold sliceV at h
  simp only [h0', Bool.false_eq_true, if_false] at h
  split at h
  · rename_i s ht
    obtain ⟨i, d, hk⟩ := htt.get ht
    cases hx.lit_inv
    obtain ⟨b, hb, rfl⟩ := Option.map_eq_some_iff.1 h
    obtain ⟨h1, h2, h3⟩ := bounds_sound (P := P) (s := false) (cap := s.size) (Nat.le_refl _) hlo hhi nlo nhi nmx hb
    subst cmx0
    exact ⟨_, by simp [Instr.sliceAt, run_underlying hk.str, Instr.slice, Result.andThen, h1], .lit⟩
  · rename_i e _ _ _ n es ht
    obtain ⟨i, d, hk⟩ := htt.get ht
    have hu := hk.slice
    split at h
    · rename_i ti hte
      obtain ⟨i', d', hke⟩ := htt.get hte
      split at h
      · rename_i hn
        obtain ⟨b, hb, rfl⟩ := Option.map_eq_some_iff.1 h
        obtain ⟨rfl, rfl⟩ | ⟨a, cap, cf, hcap, hsp, hl, hm, hr, rfl⟩ := hx.is_inv
        · obtain ⟨h1, h2, h3⟩ := bounds_sound (P := P) (s := true) (cap := 0) (Nat.le_refl _) hlo hhi nlo nhi nmx hb
          obtain ⟨l, hi'⟩ := b
          simp only at h1 h2 h3 ⊢
          have e1 : hi' = 0 := by omega
          have e2 : l = 0 := by omega
          subst e1 e2
          have hsz := hke.sizeOf (P := P) w
          refine ⟨.slice none 0 0, ?_, .isn⟩
          simp only [Instr.sliceAt, Sem.run_bind, run_underlying hu, Result.andThen, Instr.slice, h1, hsz]
          rfl
        obtain ⟨h1, h2, h3⟩ := bounds_sound (P := P) (s := true) hcap hlo hhi nlo nhi nmx hb
        obtain ⟨l, hi'⟩ := b
        simp only at h1 h2 h3 ⊢
        have hlen : ((es.drop l).take (hi' - l)).length = hi' - l := by simp; omega
        refine ⟨.slice (some (if cap = l then a else a.add (l * n))) (hi' - l) (cap - l), ?_, ?_⟩
        · have hsz := hke.sizeOf (P := P) w
          simp only [Instr.sliceAt, Sem.run_bind, run_underlying hu, Result.andThen, Instr.slice, h1, hsz, hn]
          by_cases hcl : cap = l
          · simp [hcl]
          · simp [hcl]
        · have key : ∀ a', (es.drop l).take (hi' - l) ≠ [] → a' = (if cap = l then a else a.add (l * n)) → a'.spot = none ∧ a'.block = a.block ∧ a'.off = a.off + l * n := by
            intro a' hne ha'
            have hne' : es ≠ [] := by rintro rfl; simp at hne
            have hcl : cap ≠ l := by
              intro hcl
              apply hne
              apply List.eq_nil_of_length_eq_zero
              omega
            have := hsp hne'
            rw [if_neg hcl] at ha'
            subst ha'
            obtain ⟨ab, ao, asp⟩ := a
            simp at this; subst this
            rw [add_none]; exact ⟨rfl, rfl, rfl⟩
          have hcap' : ((es.drop l).take (hi' - l)).length ≤ cap - l := by omega
          have hget : ∀ (j : Nat) e, ((es.drop l).take (hi' - l))[j]? = some e → es[l + j]? = some e := by
            intro j e he
            simp only [List.getElem?_take, List.getElem?_drop] at he
            split at he
            · exact he
            · cases he
          have hne0 : ∀ (j : Nat) e, ((es.drop l).take (hi' - l))[j]? = some e → (es.drop l).take (hi' - l) ≠ [] := by
            intro j e he h0; rw [h0] at he; simp at he
          have := RepV.is (F := F) (m := memOf w) (pl := pl) (es := (es.drop l).take (hi' - l)) (a := if cap = l then a else a.add (l * n)) (cap := cap - l) (n := n) (fun j c => cf (l + j) c) hcap'
            (fun hne => (key _ hne rfl).1) (fun j e he => hl _ _ (hget j e he)) (fun j e c x he hx => by
              obtain ⟨k1, k2, k3⟩ := key _ (hne0 j e he) rfl
              rw [k2, k3]
              obtain ⟨m1, m2, m3⟩ := hm _ _ c x (hget j e he) hx
              rw [show a.off + l * n + j * n + c = a.off + (l + j) * n + c by rw [Nat.add_mul]; omega]
              exact ⟨m1, m2, m3⟩) (fun j e c x he hx => hr _ _ c x (hget j e he) hx)
          rw [hlen] at this
          exact this
      · cases h
    · cases h
  · rename_i e _ _ _ k n i0 len ht
    obtain ⟨i, d, hk⟩ := htt.get ht
    have hu := hk.slice
    split at h
    · rename_i ti hte
      obtain ⟨i', d', hke⟩ := htt.get hte
      split at h
      · rename_i hn
        obtain ⟨b, hb, rfl⟩ := Option.map_eq_some_iff.1 h
        obtain ⟨p, a, cap, hp, hpn, hlc, hic, ha, rfl⟩ := hx.ls_inv
        obtain ⟨h1, h2, h3⟩ := bounds_sound (P := P) (s := true) hlc hlo hhi nlo nhi nmx hb
        obtain ⟨l, hi'⟩ := b
        simp only at h1 h2 h3 ⊢
        refine ⟨.slice (some (if cap = l then a else a.add (l * n))) (hi' - l) (cap - l), ?_, ?_⟩
        · have hsz := hke.sizeOf (P := P) w
          simp only [Instr.sliceAt, Sem.run_bind, run_underlying hu, Result.andThen, Instr.slice, h1, hsz, hn]
          by_cases hcl : cap = l
          · simp [hcl]
          · simp [hcl]
        · refine .ls hp hpn (by omega) (by omega) (fun hne => ?_)
          have hcl : cap ≠ l := by omega
          rw [if_neg hcl, ha (by omega), add_none, Nat.add_mul]
          congr 1; omega
      · cases h
    · cases h
  · rename_i e _ _ _ ht
    obtain ⟨i, d, hk⟩ := htt.get ht
    have hu := hk.slice
    cases hx.lit_inv
    split at h
    · rename_i ti hte
      obtain ⟨i', d', hke⟩ := htt.get hte
      obtain ⟨b, hb, rfl⟩ := Option.map_eq_some_iff.1 h
      obtain ⟨h1, h2, h3⟩ := bounds_sound (P := P) (s := true) (cap := 0) (Nat.le_refl _) hlo hhi nlo nhi nmx hb
      obtain ⟨l, hi'⟩ := b
      simp only at h1 h2 h3 ⊢
      have e1 : hi' = 0 := by omega
      have e2 : l = 0 := by omega
      subst e1 e2
      have hsz := hke.sizeOf (P := P) w
      refine ⟨.slice none 0 0, ?_, .lit⟩
      simp only [Instr.sliceAt, Sem.run_bind, run_underlying hu, Result.andThen, Instr.slice, h1, hsz]
      rfl
    · cases h
  · cases h
theorem builtinV_sound {b : Builtin} {ts : Array TypeId} {ty : TypeId} {cs : Array Bool} {vs : List V} {cvs : Array Value} {v : V} (htt : TTok P tt) (hs : cvs.size = vs.length)
    (hr : ∀ (i : Nat) x (hi : i < cvs.size), vs[i]? = some x → RepV F (memOf w) pl x cvs[i]) (h : builtinV tt b ts.toList vs = some v) :
    ∃ cv, (builtin b ts ty cs cvs).run P w = .ok (.value cv) w ∧ RepV F (memOf w) pl v cv := by
  have one : ∀ x, vs = [x] → ∃ c, cvs = #[c] ∧ RepV F (memOf w) pl x c := by
    intro x hx
    subst hx
    have h1 : cvs.size = 1 := hs
    refine ⟨cvs[0], ?_, hr 0 x (by omega) rfl⟩
    exact Array.ext (by simp [h1]) (fun i h1 h2 => by simp at h2; subst h2; rfl)
  have two : ∀ x y, vs = [x, y] → ∃ c d, cvs = #[c, d] ∧ RepV F (memOf w) pl x c ∧ RepV F (memOf w) pl y d := by
    intro x y hx
    subst hx
    have h1 : cvs.size = 2 := hs
    refine ⟨cvs[0], cvs[1], ?_, hr 0 x (by omega) rfl, hr 1 y (by omega) rfl⟩
    exact Array.ext (by simp [h1]) (fun i h1 h2 => by
      have : i = 0 ∨ i = 1 := by simp at h2; omega
      rcases this with rfl | rfl <;> rfl)
  have tlen : ∀ {t}, ts.toList = [t] → ts = #[t] := fun {t} h => by rw [← Array.toArray_toList (xs := ts), h]
  unfold builtinV at h
  split at h
  · rename_i t x hts
    obtain ⟨c, rfl, hc⟩ := one _ rfl
    rw [tlen hts]
    unfold lenV at h
    split at h
    · rename_i ht
      obtain ⟨i, d, hk⟩ := htt.get ht
      cases hc.lit_inv; cases h
      exact ⟨_, by simp [builtin, Builtin.len_, run_underlying hk.str, goInt], .lit⟩
    · rename_i ht
      obtain ⟨i, d, hk⟩ := htt.get ht
      obtain ⟨rfl, rfl⟩ | ⟨a, cap, cf, _, _, _, _, _, rfl⟩ := hc.is_inv <;> cases h
      · exact ⟨_, by simp [builtin, Builtin.len_, run_underlying hk.slice, goInt], .lit⟩
      exact ⟨_, by simp [builtin, Builtin.len_, run_underlying hk.slice, goInt], .lit⟩
    · rename_i ht
      obtain ⟨i, d, hk⟩ := htt.get ht
      obtain ⟨p, a, cap, _, _, _, _, _, rfl⟩ := hc.ls_inv; cases h
      exact ⟨_, by simp [builtin, Builtin.len_, run_underlying hk.slice, goInt], .lit⟩
    · rename_i ht
      obtain ⟨i, d, hk⟩ := htt.get ht
      cases hc.lit_inv; cases h
      exact ⟨_, by simp [builtin, Builtin.len_, run_underlying hk.slice, goInt], .lit⟩
    · rename_i ht
      obtain ⟨i, d, hk⟩ := htt.get ht
      obtain ⟨a, rfl⟩ := hc.e0_inv; cases h
      exact ⟨_, by simp [builtin, Builtin.len_, run_underlying hk.slice, goInt], .lit⟩
    · cases h
  · rename_i t x hts
    obtain ⟨c, rfl, hc⟩ := one _ rfl
    rw [tlen hts]
    unfold capV at h
    split at h
    · rename_i ht
      obtain ⟨i, d, hk⟩ := htt.get ht
      cases hc.lit_inv; cases h
      exact ⟨_, by simp [builtin, Builtin.cap_, run_underlying hk.slice, goInt], .lit⟩
    · cases h
  · obtain ⟨c, d, rfl, hc, hd⟩ := two _ _ rfl
    cases hc.lit_inv; cases hd.lit_inv; cases h
    exact ⟨_, by simp [builtin, Builtin.min_, Builtin.min2], .lit⟩
  · obtain ⟨c, d, rfl, hc, hd⟩ := two _ _ rfl
    cases hc.lit_inv; cases hd.lit_inv; cases h
    exact ⟨_, by simp [builtin, Builtin.max_, Builtin.max2], .lit⟩
  · cases h

theorem repMap {l : List Operand} (hρ : ∀ x, RepV F (memOf w) pl (μ x) (ρ x)) (i : Nat) (x : V) (hi : i < (l.map ρ).toArray.size) (hx : (l.map μ)[i]? = some x) : RepV F (memOf w) pl x (l.map ρ).toArray[i] := by
  simp only [List.getElem?_map, Option.map_eq_some_iff] at hx
  obtain ⟨o, ho, rfl⟩ := hx
  obtain ⟨h1, h2⟩ := List.getElem?_eq_some_iff.1 ho
  subst h2
  simpa using hρ _

/-- A load out of memory that nobody changes. -/
theorem run_loadVar_cells {t : TypeId} {ti : TI} {i : TypeInfo} {d : TypeDesc} (hk : TOk P t ti i d) {b o n : Nat} {e : V} {off : Nat} {v : V} {pl' : Places}
    (hn : e.cells.length = n) (hc : ∀ (c : Nat) x, e.cells[c]? = some x → scal x = true ∧ ∃ cv, memOf w b (o + c) = some cv ∧ RepV F (memOf w) pl' x cv) (h : loadV ti e off = some v) :
    ∃ cv, (loadVar t ⟨b, o + off, none⟩).run P w = .ok cv w ∧ RepV F (memOf w) pl' v cv := by
  unfold loadV partV at h
  simp only [loadVar, Sem.run_bind, hk.agg w, Result.andThen]
  split at h
  · rename_i ha
    split at h
    · rename_i hle
      cases h
      simp only [ha, if_true, Sem.run_bind, hk.sizeOf, Result.andThen]
      have hex : ∀ c, c < e.cells.length → ∃ cv, memOf w b (o + c) = some cv ∧ ∀ x, e.cells[c]? = some x → RepV F (memOf w) pl' x cv := by
        intro c hcl
        obtain ⟨_, cv, h1, h2⟩ := hc c _ (List.getElem?_eq_getElem hcl)
        exact ⟨cv, h1, fun x hx => by rw [List.getElem?_eq_getElem hcl] at hx; cases hx; exact h2⟩
      let f : Nat → Value := fun j => (memOf w b (o + off + j)).getD undef
      have hf : ∀ j, j < ti.size → w.cell? ((⟨b, o + off, none⟩ : Addr).add j) = some (f j) := by
        intro j hj
        obtain ⟨cv, h1, _⟩ := hex (off + j) (by omega)
        rw [add_none]
        rw [← Nat.add_assoc] at h1
        simp only [f, h1, Option.getD_some]
        exact h1
      have hl := run_loadCells (P := P) w ⟨b, o + off, none⟩ ti.size f hf
      refine ⟨.agg ((List.range ti.size).map f).toArray, by simp [hl], .agg _ (by simp; omega) (fun j x hj hx => ?_)⟩
      simp only [List.getElem?_take, List.getElem?_drop] at hx
      split at hx
      · rename_i hjs
        obtain ⟨cv, h1, h2⟩ := hex (off + j) (by omega)
        have := h2 x hx
        rw [← Nat.add_assoc] at h1
        simpa [f, h1] using this
      · cases hx
    · cases h
  · rename_i ha
    obtain ⟨_, cv, h1, h2⟩ := hc off v h
    refine ⟨cv, ?_, h2⟩
    simp only [ha, Bool.false_eq_true, if_false]
    rw [run_load, show w.cell? ⟨b, o + off, none⟩ = some cv from h1]
end sound
end Go.Eng

/- A machine of values for the program's code, part 5: an operation that only computes does what the machine says. -/
namespace Go.Eng
open Go.RowKit

section sound
variable {P : Program} {tt : TT} {F : Cells} {w : World} {pl : Places} {ρ : Operand → Value} {μ : Operand → V}

theorem optMap (hρ : ∀ x, RepV F (memOf w) pl (μ x) (ρ x)) (lo : Option Operand) : (∀ v, lo.map μ = some v → ∃ cv, lo.map ρ = some cv ∧ RepV F (memOf w) pl v cv) ∧ (lo.map μ = none → lo.map ρ = none) := by
  cases lo with
  | none => exact ⟨fun v h => by simp at h, fun _ => rfl⟩
  | some x => exact ⟨fun v h => ⟨ρ x, rfl, by simp at h; exact h ▸ hρ x⟩, fun h => by simp at h⟩

theorem TOk.struct' {t : TypeId} {fs : List (Nat × TypeId)} {s b : Nat} {z : List Z} {i : TypeInfo} {d : TypeDesc} (h : TOk P t ⟨.struct fs, s, b, z⟩ i d) :
    ∃ fields : Array Field, P.underlying t = some (.struct fields) ∧ (∀ (k off : Nat) (ft : TypeId), fs[k]? = some (off, ft) → ∃ f : Field, fields[k]? = some f ∧ f.offset = off ∧ f.type = ft) ∧
      ∀ (k : Nat) (f : Field), fields[k]? = some f → fs[k]? = some (f.offset, f.type) := by
  have := h.isd
  cases d <;> simp only [TD.is, Bool.false_eq_true] at this
  rename_i fields
  refine ⟨fields, h.und, fun k off ft hk => ?_, fun k f hk => ?_⟩
  · rw [eq_of_beq this] at hk
    simp only [List.getElem?_map, Option.map_eq_some_iff, Array.getElem?_toList] at hk
    obtain ⟨f, hf, he⟩ := hk
    cases he
    exact ⟨f, hf, rfl, rfl⟩
  · rw [eq_of_beq this]
    simp [hk]

theorem run_places (l : List Field) (h : ∀ f ∈ l, ∃ i, P.info? f.type = some i) :
    (l.mapM (fun f => do pure (f.offset, ← sizeOf f.type) : Field → Sem (Nat × Nat))).run P w = .ok (l.map fun f => (f.offset, P.cellsOf f.type)) w := by
  induction l with
  | nil => rfl
  | cons f t ih =>
    obtain ⟨i, hi⟩ := h f (by simp)
    have ih' := ih (fun f hf => h f (by simp [hf]))
    simp only [bind_pure_comp] at ih'
    simp [List.mapM_cons, run_sizeOf w hi, ih']

theorem pureF_sound (htt : TTok P tt) (hρ : ∀ x, RepV F (memOf w) pl (μ x) (ρ x)) (o : Oper) {v : V} (h : pureF tt o.op μ = some v) :
    ∃ cv, (execOp ρ o).run P w = .ok (.value cv) w ∧ RepV F (memOf w) pl v cv := by
  obtain ⟨dst, op, ty, pos, after, guard⟩ := o
  simp only at h
  cases op
  case move x => simp only [pureF, Option.some.injEq] at h; subst h; exact ⟨_, rfl, hρ x⟩
  case assign x => simp only [pureF, Option.some.injEq] at h; subst h; exact ⟨_, rfl, hρ x⟩
  case pick c a b =>
    simp only [pureF] at h
    have hc := hρ c
    split at h
    · rename_i cb hm
      rw [hm] at hc
      have := hc.lit_inv
      split at h
      · rename_i hcb; cases h
        exact ⟨ρ a, by simp [execOp, this, asBool, hcb], hρ a⟩
      · rename_i hcb; cases h
        have : cb = false := by simpa using hcb
        subst this
        exact ⟨ρ b, by simp [execOp, hc.lit_inv, asBool], hρ b⟩
    · cases h
  case build t parts =>
    simp only [pureF] at h
    split at h
    · rename_i ti hti
      split at h
      · rename_i fs hfs
        split at h <;> try contradiction
        rename_i hall
        obtain ⟨i, d, hk⟩ := htt.get hti
        obtain ⟨cs, hcs, rfl⟩ := Option.map_eq_some_iff.1 h
        obtain ⟨td, tsz, tby, tz⟩ := ti
        simp only at hfs hcs
        subst hfs
        obtain ⟨fields, hu, hf⟩ := hk.struct'
        have hz := hk.zeroValue (P := P) w
        have hmap := run_places (P := P) (w := w) fields.toList (fun f hfm => by
          obtain ⟨n, hn1, hn2⟩ := List.getElem_of_mem hfm
          have := hf.2 n f (by rw [← Array.getElem?_toList]; exact List.getElem?_eq_some_iff.2 ⟨hn1, hn2⟩)
          have h1 := List.all_eq_true.1 hall _ (List.mem_of_getElem? this)
          obtain ⟨fi, hfi⟩ := Option.isSome_iff_exists.1 h1
          obtain ⟨i2, d2, hk2⟩ := htt.get hfi
          exact ⟨_, hk2.info⟩)
        have hmap2 : (fields.mapM (fun f => do pure (f.offset, ← sizeOf f.type) : Field → Sem (Nat × Nat))).run P w = .ok (fields.toList.map fun f => (f.offset, P.cellsOf f.type)).toArray w := by
          rw [Array.mapM_eq_mapM_toList]
          rw [map_eq_pure_bind, Sem.run_bind, hmap]
          rfl
        obtain ⟨ca', hca, hsz, hr⟩ := run_fill (F := F) (m := memOf w) (pl := pl) (ρ := ρ) (μ := μ) (placeC := fun i => ((fields.toList.map fun f => (f.offset, P.cellsOf f.type)).toArray)[i]?) (place := placeV tt fs) (fun i x hx => by
            unfold placeV at hx
            split at hx <;> try contradiction
            rename_i off ft hff
            obtain ⟨fi, hfi, rfl⟩ := Option.map_eq_some_iff.1 hx
            obtain ⟨fl, hfl, rfl, rfl⟩ := hf.1 i off ft hff
            obtain ⟨i2, d2, hk2⟩ := htt.get hfi
            have : P.cellsOf fl.type = fi.size := by simp [Program.cellsOf, hk2.info, hk2.size]
            simp [hfl, this]) parts.toList (cells := tz.map fun z => .lit z.val) (ca := (tz.map Z.val).toArray) (by simp)
          (fun i x hi hx => repL (tz.map Z.val) i x hi (by simpa [List.map_map] using hx)) hρ hcs
        refine ⟨.agg ca', ?_, .agg _ hsz hr⟩
        have hzc : (TI.zeroVal ⟨.struct fs, tsz, tby, tz⟩).cells = (tz.map Z.val).toArray := rfl
        have hpl : (parts.map fun x => (x.1, ρ x.2)).toList = parts.toList.map fun p => (p.1, ρ p.2) := by simp
        simp only [execOp, Instr.build, Sem.run_bind, hz, Result.andThen, run_underlying hu, hzc, hmap2, hpl, hca]
        rfl
      · cases h
    · cases h
  case nilCheck x =>
    simp only [pureF] at h
    have hx := hρ x
    split at h
    · rename_i hm; rw [hm] at hx; cases h
      obtain ⟨p, _, _, e⟩ := hx.lp_inv
      exact ⟨ρ x, by simp [execOp, e], hx⟩
    · rename_i hm; rw [hm] at hx; cases h
      obtain ⟨b, base, cf, _, _, _, e⟩ := hx.ip_inv
      exact ⟨ρ x, by simp [execOp, e], hx⟩
    · rename_i hm; rw [hm] at hx; cases h
      obtain ⟨cs, e, _, _⟩ := hx.fn_inv
      exact ⟨ρ x, by simp [execOp, e], hx⟩
    · cases h
  case load t a =>
    simp only [pureF] at h
    have hx := hρ a
    split at h
    · rename_i ti n es i off hti hm
      rw [hm] at hx
      split at h
      · rename_i e he
        obtain ⟨ii, d, hk⟩ := htt.get hti
        obtain ⟨b, base, cf, h1, h2, h3, e'⟩ := hx.ip_inv
        obtain ⟨cv, k1, k2⟩ := run_loadVar_cells (P := P) (w := w) (F := F) hk (b := b) (o := base + i * n) (pl' := noPl) (h1 i e he) (fun c x hx => ⟨(h2 i e c x he hx).1, cf i c, (h2 i e c x he hx).2.2, h3 i e c x he hx⟩) h
        exact ⟨cv, by simp [execOp, Instr.loadAt, e', Instr.sureAddr, k1], k2.ofNo⟩
      · cases h
    · cases h
  case unOp op t x =>
    simp only [pureF] at h
    obtain ⟨cv, h1, h2⟩ := unV_sound (P := P) (hρ x) h
    exact ⟨cv, by simp [execOp, h1], h2⟩
  case binOp op t x y yt =>
    simp only [pureF] at h
    obtain ⟨cv, h1, h2, h3⟩ := binV_sound (P := P) htt (hρ x) (hρ y) x y h
    exact ⟨cv, by simp [execOp, h1, h2], h3⟩
  case convert src dst x =>
    simp only [pureF] at h
    have hx := hρ x
    split at h
    · rename_i ht1 ht2 hm
      rw [hm] at hx
      obtain ⟨i1, d1, hk1⟩ := htt.get ht1
      obtain ⟨i2, d2, hk2⟩ := htt.get ht2
      have := hx.lit_inv
      cases h
      exact ⟨_, by simp [execOp, convert, run_underlying hk1.int, run_underlying hk2.int, this, Conv.intToInt], .lit⟩
    · rename_i ht1 ht2 hm
      rw [hm] at hx
      obtain ⟨i1, d1, hk1⟩ := htt.get ht1
      obtain ⟨i2, d2, hk2⟩ := htt.get ht2
      have := hx.lit_inv
      cases h
      exact ⟨_, by simp [execOp, convert, run_underlying hk1.str, run_underlying hk2.str, this], .lit⟩
    · cases h
  case makeFunc fn first cap =>
    cases fn <;> simp only [pureF, reduceCtorEq] at h
    split at h
    · rename_i f h0
      cases h
      have : first = #[] := by simpa using h0
      subst this
      refine ⟨.func (.func f) #[] (cap.map ρ), by simp [execOp, Instr.makeFunc], .fn _ (by simp) (fun i x hi hx => ?_)⟩
      have := repMap (F := F) (w := w) (pl := pl) (l := cap.toList) hρ i x (by simpa using hi) hx
      simpa using this
    · cases h
  case slice t x lo hi mx =>
    simp only [pureF] at h
    obtain ⟨cv, h1, h2⟩ := sliceV_sound (P := P) htt (hρ x) (optMap hρ lo).1 (optMap hρ hi).1 (optMap hρ mx).1 (optMap hρ lo).2 (optMap hρ hi).2 (optMap hρ mx).2 h
    exact ⟨cv, by simp [execOp, h1], h2⟩
  case fieldAddr s x f =>
    simp only [pureF] at h
    have hx := hρ x
    split at h <;> try contradiction
    rename_i fs sz by_ z hts
    obtain ⟨i, d, hk⟩ := htt.get hts
    obtain ⟨fields, hu, hf⟩ := hk.struct
    split at h <;> try contradiction
    rename_i off ft hff
    obtain ⟨fl, hfl, rfl, rfl⟩ := hf f off ft hff
    split at h <;> try contradiction
    rename_i fi hfi
    obtain ⟨i2, d2, hk2⟩ := htt.get hfi
    split at h
    · cases h
    · rename_i hz
      have hsz := hk2.sizeOf (P := P) w
      split at h
      · rename_i hm; rw [hm] at hx; cases h
        obtain ⟨p, hp, hn, e⟩ := hx.lp_inv
        rename_i k n ii oo
        refine ⟨.pointer (some ⟨p.b, p.base + ii * n + (oo + fl.offset), none⟩), by simp [execOp, Instr.fieldAt, run_underlying hu, hfl, e, Instr.sureAddr, fieldPlace, hsz, hz, add_none, Nat.add_assoc], .lp hp hn⟩
      · rename_i hm; rw [hm] at hx; cases h
        obtain ⟨b, base, cf, h1, h2, h3, e⟩ := hx.ip_inv
        rename_i n es ii oo
        refine ⟨.pointer (some ⟨b, base + ii * n + (oo + fl.offset), none⟩), by simp [execOp, Instr.fieldAt, run_underlying hu, hfl, e, Instr.sureAddr, fieldPlace, hsz, hz, add_none, Nat.add_assoc], .ip cf h1 h2 h3⟩
      · cases h
  case field s x f =>
    simp only [pureF] at h
    have hx := hρ x
    split at h <;> try contradiction
    rename_i fs sz by_ z hts
    obtain ⟨i, d, hk⟩ := htt.get hts
    obtain ⟨fields, hu, hf⟩ := hk.struct
    split at h <;> try contradiction
    rename_i off ft hff
    obtain ⟨fl, hfl, rfl, rfl⟩ := hf f off ft hff
    split at h <;> try contradiction
    rename_i fi hfi
    obtain ⟨i2, d2, hk2⟩ := htt.get hfi
    split at h <;> try contradiction
    rename_i hm; rw [hm] at hx
    obtain ⟨cs, e, h1, h2⟩ := hx.agg_inv
    obtain ⟨cv, k1, k2⟩ := rep_part (P := P) (w := w) hk2 h1 h2 h
    exact ⟨cv, by simp [execOp, Instr.field, run_underlying hu, hfl, e, asAgg, k1], k2⟩
  case indexAddr t x ix =>
    simp only [pureF] at h
    have hx := hρ x
    have hi := hρ ix
    split at h <;> try contradiction
    rename_i e sz by_ z hts
    obtain ⟨i, d, hk⟩ := htt.get hts
    have hu := hk.slice
    split at h <;> try contradiction
    rename_i ei hei
    obtain ⟨i2, d2, hk2⟩ := htt.get hei
    have hsz := hk2.sizeOf (P := P) w
    split at h <;> try contradiction
    · rename_i n es k ii hm hmi
      rw [hm] at hx; rw [hmi] at hi
      have e1 := hi.lit_inv
      split at h <;> try contradiction
      rename_i hb
      obtain ⟨hb1, hb2, hb3⟩ := hb
      cases h
      obtain ⟨h0, _⟩ | ⟨a, cap, cf, hcap, hsp, h1, h2, h3, e2⟩ := hx.is_inv
      · rw [h0] at hb3; simp at hb3; omega
      have hne : es ≠ [] := by rintro rfl; simp at hb3; omega
      obtain ⟨ab, ao, asp⟩ := a
      have := hsp hne; simp at this; subst this
      refine ⟨.pointer (some ⟨ab, ao + ii.toNat * n + 0, none⟩), ?_, .ip cf h1 h2 h3⟩
      simp [execOp, Instr.indexAt, e1, e2, asIntOf, run_underlying hu, hsz, hb1, hb2, hb3, add_none]
    · rename_i k n i0 len kk ii hm hmi
      rw [hm] at hx; rw [hmi] at hi
      have e1 := hi.lit_inv
      obtain ⟨p, a, cap, hp, hn, hlc, hic, ha, e2⟩ := hx.ls_inv
      split at h <;> try contradiction
      rename_i hb
      obtain ⟨hb1, hb2, hb3⟩ := hb
      cases h
      have ha' := ha (by omega)
      subst ha'
      refine ⟨.pointer (some ⟨p.b, p.base + (i0 + ii.toNat) * n + 0, none⟩), ?_, .lp hp hn⟩
      simp [execOp, Instr.indexAt, e1, e2, asIntOf, run_underlying hu, hsz, hb1, hb2, hb3, add_none, Nat.add_mul, Nat.add_assoc]
  case index t x ix =>
    simp only [pureF] at h
    have hx := hρ x
    have hi := hρ ix
    split at h <;> try contradiction
    rename_i sz by_ z s k ii hts hm hmi
    obtain ⟨i, d, hk⟩ := htt.get hts
    rw [hm] at hx; rw [hmi] at hi
    have e1 := hi.lit_inv
    have e2 := hx.lit_inv
    split at h <;> try contradiction
    rename_i b hb
    cases h
    refine ⟨_, ?_, .lit⟩
    simp only [execOp, Instr.index, e1, e2, asIntOf, Sem.run_bind, Sem.run_pure, Result.andThen, run_underlying hk.str, hb]
  case extract x i =>
    simp only [pureF] at h
    have hx := hρ x
    split at h <;> try contradiction
    rename_i vs hm
    rw [hm] at hx
    obtain ⟨cs, e, h1, h2⟩ := hx.tup_inv
    obtain ⟨hl, _⟩ := List.getElem?_eq_some_iff.1 h
    have hl' : i < cs.size := by omega
    exact ⟨cs[i], by simp [execOp, Instr.extract, e, hl'], h2 i v hl' h⟩
  case call c =>
    obtain ⟨callee, args, argTypes⟩ := c
    cases callee <;> simp only [pureF, reduceCtorEq] at h
    rename_i b
    obtain ⟨cv, h1, h2⟩ := builtinV_sound (P := P) (F := F) (w := w) (pl := pl) (ty := ty) (cs := args.map fun | .const _ => true | _ => false) (cvs := args.map ρ) htt (by simp)
      (fun i x hi hx => by
        have := repMap (F := F) (w := w) (pl := pl) (l := args.toList) hρ i x (by simpa using hi) hx
        simpa using this) h
    exact ⟨cv, by simp only [execOp, resolve, Sem.run_bind, Sem.run_pure, Result.andThen, invoke]; exact h1, h2⟩
  all_goals (simp only [pureF, reduceCtorEq] at h)
end sound
end Go.Eng

/- A machine of values for the program's code, part 6: how a state and what it says of the memory go on when the memory changes. -/
namespace Go.Eng
open Go.RowKit

theorem memOf_lt {w : World} {b o : Nat} (h : (memOf w b o).isSome) : b < w.heap.size := by
  unfold memOf World.cell? at h
  rcases Nat.lt_or_ge b w.heap.size with h' | h'
  · exact h'
  · simp [h'] at h

theorem pl_has {p : Pl} {n j c : Nat} (hn : p.n = n) {len : Nat} (hl : len ≤ p.C) (hj : j < len) (hc : c < n) : p.has p.b (p.base + j * n + c) := by
  refine ⟨rfl, by omega, ?_⟩
  subst hn
  have : (j + 1) * p.n ≤ p.C * p.n := Nat.mul_le_mul_right _ (by omega)
  rw [Nat.add_mul] at this
  omega

theorem RepE.turn {F F' : Cells} {m m' : Mem} {pl pl' : Places} {b o n : Nat} {e : V} (h : RepE F m pl b o n e) (hF : ∀ b o, F b o → F' b o ∧ m' b o = m b o)
    (hpl : ∀ k p, pl k = some p → pl' k = some p) (hc : ∀ c, c < n → m' b (o + c) = m b (o + c)) : RepE F' m' pl' b o n e := by
  refine ⟨h.1, fun c x hx => ?_⟩
  obtain ⟨h1, cv, h2, h3⟩ := h.2 c x hx
  refine ⟨h1, cv, ?_, h3.mono hF hpl⟩
  rw [hc c (by rw [← h.1]; exact (List.getElem?_eq_some_iff.1 hx).1)]
  exact h2

theorem plc_mono {kf : Bool} {pl pl' : Places} (hpl : ∀ k p, pl k = some p → pl' k = some p) : ∀ k p, Obj.plc kf pl k = some p → Obj.plc kf pl' k = some p := by
  intro k p h
  unfold Obj.plc at *
  split at h
  · exact absurd h (by simp [noPl])
  · rename_i hk; simp only [hk]; exact hpl k p h

theorem RepO.turn {F F' : Cells} {m m' : Mem} {fz fz' : Cells} {pl pl' : Places} {p : Pl} {x : Obj} (h : RepO F m fz pl p x) (hF : ∀ b o, F b o → F' b o ∧ m' b o = m b o)
    (hpl : ∀ k p, pl k = some p → pl' k = some p) (hl : x.live = true → ∀ o, p.has p.b o → m' p.b o = m p.b o ∧ (fz' p.b o → fz p.b o) ∧ ¬ F' p.b o) : RepO F' m' fz' pl' p x := by
  cases x with
  | dead => trivial
  | arr kf n es =>
    obtain ⟨h1, h2, h3, h4, h5⟩ := h
    have hl := hl rfl
    refine ⟨h1, h2, h3, fun o ho => ?_, fun j e he => ?_⟩
    · obtain ⟨k1, k2, k3⟩ := hl o ho
      obtain ⟨g1, g2, g3⟩ := h4 o ho
      exact ⟨by rw [k1]; exact g1, fun hf => g2 (k2 hf), k3⟩
    · have hj := (List.getElem?_eq_some_iff.1 he).1
      exact (h5 j e he).turn hF (plc_mono hpl) (fun c hc => (hl _ (pl_has h1 h3 hj hc)).1)
  | froz n es =>
    obtain ⟨h1, h2, h3, h4⟩ := h
    refine ⟨h1, h2, h3, fun j e he => ?_⟩
    obtain ⟨k1, k2⟩ := h4 j e he
    exact ⟨k1.turn hF (fun _ _ h => h) (fun c hc => (hF _ _ (k2 c hc)).2), fun c hc => (hF _ _ (k2 c hc)).1⟩

/-- What every step of the memory gives: the cells that change (Z) are none that somebody trusts not to. -/
theorem WR.turn {F F' : Cells} {pl pl' : Places} {ob ob' : Store} {w w' : World} {Z : Cells} (h : WR F pl ob w) (hs : Same Z w w') (hZF : ∀ b o, F b o → ¬ Z b o)
    (hF : ∀ b o, F b o → F' b o) (hFe : ∀ b o, F' b o → F b o ∨ (memOf w' b o).isSome) (hpl : ∀ k p, pl k = some p → pl' k = some p)
    (hob : ∀ l x, ob' l = some x → (ob l = some x ∧ (x.live = true → ∀ p o, pl l = some p → p.has p.b o → ¬ Z p.b o ∧ ¬ F' p.b o)) ∨ (∃ p, pl' l = some p ∧ RepO F' (memOf w') (frozOf w') pl' p x))
    (hnon : ∀ k, ob' k = none → pl' k = none)
    (hdis : ∀ k l x y p q b o, k ≠ l → ob' k = some x → ob' l = some y → x.live = true → y.live = true → pl' k = some p → pl' l = some q → p.has b o → q.has b o → False) : WR F' pl' ob' w' := by
  have hFm : ∀ b o, F b o → F' b o ∧ memOf w' b o = memOf w b o := fun b o hf => ⟨hF b o hf, hs.cell b o (memOf_lt (h.fex b o hf)) (hZF b o hf)⟩
  refine ⟨fun k x hk => ?_, hnon, hdis, fun b o hf => ?_⟩
  · rcases hob k x hk with ⟨h1, h2⟩ | h1
    · obtain ⟨p, hp, hr⟩ := h.rep k x h1
      refine ⟨p, hpl k p hp, hr.turn hFm hpl (fun hl o ho => ?_)⟩
      obtain ⟨g1, g2⟩ := h2 hl p o hp ho
      have hex : (memOf w p.b o).isSome := by
        cases x <;> simp [Obj.live] at hl
        exact (hr.2.2.2.1 o ho).1
      have hlt := memOf_lt hex
      exact ⟨hs.cell _ _ hlt g1, (hs.froz _ _ hlt g1).1, g2⟩
    · exact h1
  · rcases hFe b o hf with h1 | h1
    · rw [(hFm b o h1).2]; exact h.fex b o h1
    · exact h1

theorem Inv.turn {c : Ctx} {F F' : Cells} {pl pl' : Places} {st : St} {a : Act} {w w' : World} {ob' : Store} {Z : Cells} (h : Inv c F pl st a w) (hs : Same Z w w')
    (hZF : ∀ b o, F b o → ¬ Z b o) (hZm : ∀ b o, Z b o → b < w.heap.size → c.mine b o) (hF : ∀ b o, F b o → F' b o) (hFm : ∀ b o, F' b o → F b o ∨ c.mine b o)
    (hpl : ∀ k p, pl k = some p → pl' k = some p) (hwr : WR F' pl' ob' w')
    (hown : ∀ k x p b o, ob' k = some x → x.live = true → pl' k = some p → p.has b o → c.mine b o) (harg : ∀ (k : Key) p, k.1 = 0 → pl' k = some p → pl k = some p) : Inv c F' pl' { st with ob := ob' } a w' := by
  have hFm' : ∀ b o, F b o → F' b o ∧ memOf w' b o = memOf w b o := fun b o hf => ⟨hF b o hf, hs.cell b o (memOf_lt (h.wr.fex b o hf)) (hZF b o hf)⟩
  refine ⟨h.defers, fun i v hi => ?_, hwr, fun b o hf => hF b o (h.f0 b o hf), fun b o hf => ?_, hown, ?_, fun k p h0 hp => h.arg k p h0 (harg k p h0 hp)⟩
  · obtain ⟨h1, h2⟩ := h.tm i v hi
    exact ⟨h1, h2.mono hFm' hpl⟩
  · rcases hFm b o hf with h1 | h1
    · exact h.ff b o h1
    · exact .inr h1
  · have hn : ∀ b o, b < c.w0.heap.size → ¬ c.X0 b o → ¬ Z b o := fun b o hb hx hz => by
      rcases hZm b o hz (Nat.lt_of_lt_of_le hb h.same.size) with h1 | h1
      · exact hx h1
      · omega
    exact ⟨hs.os.trans h.same.os, hs.tape.trans h.same.tape, hs.output.trans h.same.output, Nat.le_trans h.same.size hs.size,
      fun b o hb hx => (hs.cell b o (Nat.lt_of_lt_of_le hb h.same.size) (hn b o hb hx)).trans (h.same.cell b o hb hx),
      fun b o hb hx => (hs.froz b o (Nat.lt_of_lt_of_le hb h.same.size) (hn b o hb hx)).trans (h.same.froz b o hb hx),
      fun b hb hx => (hs.blk b (Nat.lt_of_lt_of_le hb h.same.size) fun o => hn b o hb (hx o)).trans (h.same.blk b hb hx)⟩

def noCells : Cells := fun _ _ => False

/-- A new block. -/
theorem same_alloc (w : World) (cs : Array Value) (e : TypeId) : Same noCells w (w.alloc (.cells cs e)) := by
  refine ⟨rfl, rfl, rfl, by simp, fun b o hb _ => ?_, fun b o hb _ => ?_, fun b hb _ => heap_alloc_old w _ _ hb⟩
  · simp only [memOf, World.cell?, heap_alloc_old w _ _ hb]
  · simp only [frozOf, World.frozen?, heap_alloc_old w _ _ hb]

theorem mem_alloc (w : World) (cs : Array Value) (e : TypeId) (o : Nat) : memOf (w.alloc (.cells cs e)) w.heap.size o = cs[o]? := by
  simp only [memOf, World.cell?, heap_alloc_new w]
  rfl

theorem froz_alloc (w : World) (cs : Array Value) (e : TypeId) (o : Nat) : ¬ frozOf (w.alloc (.cells cs e)) w.heap.size o := by
  simp only [frozOf, World.frozen?, heap_alloc_new w]
  simp

theorem same_drew (w : World) : Same noCells w w.drew := ⟨rfl, rfl, rfl, Nat.le_refl _, fun _ _ _ _ => rfl, fun _ _ _ _ => Iff.rfl, fun _ _ _ => rfl⟩

/-- A world in which only new blocks and draws stand before the old one. -/
theorem Inv.grow {c : Ctx} {F : Cells} {pl : Places} {st : St} {a : Act} {w w' : World} (h : Inv c F pl st a w) (hs : Same noCells w w') : Inv c F pl st a w' :=
  h.turn (F' := F) (pl' := pl) (ob' := st.ob) hs (fun _ _ _ h => h) (fun _ _ h => h.elim) (fun _ _ h => h) (fun _ _ h => .inl h) (fun _ _ h => h)
    (h.wr.turn hs (fun _ _ _ h => h) (fun _ _ h => h) (fun _ _ h => .inl h) (fun _ _ h => h) (fun l x hl => .inl ⟨hl, fun hv p o hp ho => ⟨fun h => h, by
      obtain ⟨q, hq, hr⟩ := h.wr.rep l x hl
      cases hp.symm.trans hq
      cases x <;> simp [Obj.live] at hv
      exact (hr.2.2.2.1 o ho).2.2⟩⟩) h.wr.non h.wr.dis) h.own (fun _ _ _ h => h)

def Store.set (ob : Store) (k : Key) (x : Obj) : Store := fun l => if l = k then some x else ob l
def Places.set (pl : Places) (k : Key) (p : Pl) : Places := fun l => if l = k then some p else pl l

theorem Store.set_self (ob : Store) (k : Key) (x : Obj) : ob.set k x k = some x := by simp [Store.set]
theorem Store.set_ne (ob : Store) {k l : Key} (x : Obj) (h : l ≠ k) : ob.set k x l = ob l := by simp [Store.set, h]
theorem Places.set_self (pl : Places) (k : Key) (p : Pl) : pl.set k p k = some p := by simp [Places.set]
theorem Places.set_ne (pl : Places) {k l : Key} (p : Pl) (h : l ≠ k) : pl.set k p l = pl l := by simp [Places.set, h]

theorem live_lt {F : Cells} {pl : Places} {ob : Store} {w : World} (h : WR F pl ob w) {k : Key} {x : Obj} {p : Pl} {b o : Nat} (hk : ob k = some x) (hl : x.live = true) (hp : pl k = some p) (ho : p.has b o) :
    (memOf w b o).isSome ∧ ¬ frozOf w b o ∧ ¬ F b o := by
  obtain ⟨q, hq, hr⟩ := h.rep k x hk
  cases hp.symm.trans hq
  cases x <;> simp [Obj.live] at hl
  have := ho.1; subst this
  exact hr.2.2.2.1 o ho

/-- A new object in new memory. -/
theorem Inv.make {c : Ctx} {F : Cells} {pl : Places} {st : St} {a : Act} {w : World} (h : Inv c F pl st a w) {k : Key} (hk0 : k.1 ≠ 0) (hk : st.ob k = none) (kf : Bool) {n C : Nat} (hn : 0 < n) {es : List V}
    (hle : es.length ≤ C) {cs : Array Value} (hcs : cs.size = C * n) (e : TypeId)
    (hr : ∀ (j : Nat) x, es[j]? = some x → x.cells.length = n ∧ ∀ (c : Nat) y, x.cells[c]? = some y → scal y = true ∧ ∃ cv, cs[j * n + c]? = some cv ∧ RepV F (memOf w) (Obj.plc kf pl) y cv) :
    Inv c F (pl.set k ⟨w.heap.size, 0, n, C⟩) { st with ob := st.ob.set k (.arr kf n es) } a (w.alloc (.cells cs e)) := by
  have hpk : pl k = none := h.wr.non k hk
  have hs := same_alloc w cs e
  have hpl : ∀ l p, pl l = some p → pl.set k ⟨w.heap.size, 0, n, C⟩ l = some p := fun l p hl => by
    rw [Places.set_ne]; exact hl
    rintro rfl; rw [hpk] at hl; cases hl
  have hFm : ∀ b o, F b o → F b o ∧ memOf (w.alloc (.cells cs e)) b o = memOf w b o := fun b o hf => ⟨hf, hs.cell b o (memOf_lt (h.wr.fex b o hf)) id⟩
  refine h.turn (F' := F) hs (fun _ _ _ h => h) (fun _ _ h => h.elim) (fun _ _ h => h) (fun _ _ h => .inl h) hpl ?_ ?_ (fun l q h0 hq => by
    rw [Places.set_ne _ _ (by rintro rfl; exact hk0 h0)] at hq; exact hq)
  · refine h.wr.turn hs (fun _ _ _ h => h) (fun _ _ h => h) (fun _ _ h => .inl h) hpl (fun l x hl => ?_) (fun l hl => ?_) ?_
    · by_cases hlk : l = k
      · subst hlk
        rw [Store.set_self] at hl; cases hl
        refine .inr ⟨_, Places.set_self _ _ _, rfl, hn, hle, fun o ho => ⟨?_, froz_alloc w cs e o, fun hf => ?_⟩, fun j x hx => ?_⟩
        · rw [mem_alloc]
          obtain ⟨_, _, h3⟩ := ho
          simp only [Nat.zero_add] at h3
          simp [hcs, h3]
        · have := memOf_lt (h.wr.fex _ _ hf); exact absurd this (Nat.lt_irrefl _)
        · obtain ⟨h1, h2⟩ := hr j x hx
          refine ⟨h1, fun c y hy => ?_⟩
          obtain ⟨g1, cv, g2, g3⟩ := h2 c y hy
          exact ⟨g1, cv, by rw [mem_alloc]; simpa using g2, g3.mono hFm (plc_mono hpl)⟩
      · rw [Store.set_ne _ _ hlk] at hl
        exact .inl ⟨hl, fun hv p o hp ho => ⟨fun h => h, (live_lt h.wr hl hv hp ho).2.2⟩⟩
    · by_cases hlk : l = k
      · subst hlk; rw [Store.set_self] at hl; cases hl
      · rw [Store.set_ne _ _ hlk] at hl; rw [Places.set_ne _ _ hlk]; exact h.wr.non l hl
    · intro l1 l2 x y p q b o hne h1 h2 hx hy hp hq hpo hqo
      by_cases e1 : l1 = k
      · subst e1
        rw [Places.set_self] at hp; cases hp
        have e2 : l2 ≠ l1 := Ne.symm hne
        rw [Store.set_ne _ _ e2] at h2; rw [Places.set_ne _ _ e2] at hq
        have := memOf_lt (live_lt h.wr h2 hy hq hqo).1
        have := hpo.1; simp at this; omega
      · rw [Store.set_ne _ _ e1] at h1; rw [Places.set_ne _ _ e1] at hp
        by_cases e2 : l2 = k
        · subst e2
          rw [Places.set_self] at hq; cases hq
          have := memOf_lt (live_lt h.wr h1 hx hp hpo).1
          have := hqo.1; simp at this; omega
        · rw [Store.set_ne _ _ e2] at h2; rw [Places.set_ne _ _ e2] at hq
          exact h.wr.dis l1 l2 x y p q b o hne h1 h2 hx hy hp hq hpo hqo
  · intro l x p b o hl hx hp ho
    by_cases e1 : l = k
    · subst e1
      rw [Places.set_self] at hp; cases hp
      have := ho.1; simp at this; subst this
      exact .inr h.same.size
    · rw [Store.set_ne _ _ e1] at hl; rw [Places.set_ne _ _ e1] at hp
      exact h.own l x p b o hl hx hp ho

/-- An object's content is written anew, in its own cells. -/
theorem Inv.rewrite {c : Ctx} {F : Cells} {pl : Places} {st : St} {a : Act} {w w' : World} (h : Inv c F pl st a w) {k : Key} {kf : Bool} {n : Nat} {es es' : List V} {p : Pl}
    (hk : st.ob k = some (.arr kf n es)) (hp : pl k = some p) (hs : Same p.has w w') (hex : ∀ o, p.has p.b o → (memOf w' p.b o).isSome ∧ ¬ frozOf w' p.b o) (hle : es'.length ≤ p.C)
    (hr : ∀ (j : Nat) x, es'[j]? = some x → x.cells.length = n ∧ ∀ (c : Nat) y, x.cells[c]? = some y → scal y = true ∧ ∃ cv, memOf w' p.b (p.base + j * n + c) = some cv ∧ RepV F (memOf w) (Obj.plc kf pl) y cv) :
    Inv c F pl { st with ob := st.ob.set k (.arr kf n es') } a w' := by
  obtain ⟨q, hq, hro⟩ := h.wr.rep k _ hk
  cases hp.symm.trans hq
  obtain ⟨r1, r2, r3, r4, r5⟩ := hro
  have hZF : ∀ b o, F b o → ¬ p.has b o := fun b o hf hh => by have := hh.1; subst this; exact (r4 o hh).2.2 hf
  have hFm : ∀ b o, F b o → F b o ∧ memOf w' b o = memOf w b o := fun b o hf => ⟨hf, hs.cell b o (memOf_lt (h.wr.fex b o hf)) (hZF b o hf)⟩
  refine h.turn (F' := F) hs hZF (fun b o hz _ => h.own k _ p b o hk rfl hp hz) (fun _ _ h => h) (fun _ _ h => .inl h) (fun _ _ h => h) ?_ ?_ (fun _ _ _ h => h)
  · refine h.wr.turn hs hZF (fun _ _ h => h) (fun _ _ h => .inl h) (fun _ _ h => h) (fun l x hl => ?_) (fun l hl => ?_) ?_
    · by_cases hlk : l = k
      · subst hlk
        rw [Store.set_self] at hl; cases hl
        refine .inr ⟨p, hp, r1, r2, hle, fun o ho => ⟨(hex o ho).1, (hex o ho).2, (r4 o ho).2.2⟩, fun j x hx => ?_⟩
        obtain ⟨h1, h2⟩ := hr j x hx
        refine ⟨h1, fun c y hy => ?_⟩
        obtain ⟨g1, cv, g2, g3⟩ := h2 c y hy
        exact ⟨g1, cv, g2, g3.mono hFm (fun _ _ h => h)⟩
      · rw [Store.set_ne _ _ hlk] at hl
        exact .inl ⟨hl, fun hv q o hq ho => ⟨fun hz => h.wr.dis l k x _ q p _ o hlk hl hk hv rfl hq hp ho hz, (live_lt h.wr hl hv hq ho).2.2⟩⟩
    · by_cases hlk : l = k
      · subst hlk; rw [Store.set_self] at hl; cases hl
      · rw [Store.set_ne _ _ hlk] at hl; exact h.wr.non l hl
    · intro l1 l2 x y p' q' b o hne h1 h2 hx hy hp' hq' hpo hqo
      have g1 : ∃ x', st.ob l1 = some x' ∧ x'.live = true := by
        by_cases e1 : l1 = k
        · subst e1; exact ⟨_, hk, rfl⟩
        · rw [Store.set_ne _ _ e1] at h1; exact ⟨x, h1, hx⟩
      have g2 : ∃ x', st.ob l2 = some x' ∧ x'.live = true := by
        by_cases e1 : l2 = k
        · subst e1; exact ⟨_, hk, rfl⟩
        · rw [Store.set_ne _ _ e1] at h2; exact ⟨y, h2, hy⟩
      obtain ⟨x', g1, gx⟩ := g1
      obtain ⟨y', g2, gy⟩ := g2
      exact h.wr.dis l1 l2 x' y' p' q' b o hne g1 g2 gx gy hp' hq' hpo hqo
  · intro l x q' b o hl hx hq' ho
    by_cases e1 : l = k
    · rw [e1] at hq'
      exact h.own k _ q' b o hk rfl hq' ho
    · rw [Store.set_ne _ _ e1] at hl
      exact h.own l x q' b o hl hx hq' ho

/-- An object is given up; what it was is a new object's, in its own cells. -/
theorem Inv.moveTo {c : Ctx} {F : Cells} {pl : Places} {st : St} {a : Act} {w w' : World} (h : Inv c F pl st a w) {k k' : Key} {kf : Bool} {n : Nat} {es es' : List V} {p p' : Pl}
    (hk : st.ob k = some (.arr kf n es)) (hp : pl k = some p) (hk0 : k'.1 ≠ 0) (hk' : st.ob k' = none) (hs : Same p.has w w') (hex : ∀ o, p.has p.b o → (memOf w' p.b o).isSome ∧ ¬ frozOf w' p.b o)
    (hsub : ∀ b o, p'.has b o → p.has b o) (hpb : p'.b = p.b) (hpn : p'.n = n) (hle : es'.length ≤ p'.C)
    (hr : ∀ (j : Nat) x, es'[j]? = some x → x.cells.length = n ∧ ∀ (c : Nat) y, x.cells[c]? = some y → scal y = true ∧ ∃ cv, memOf w' p'.b (p'.base + j * n + c) = some cv ∧ RepV F (memOf w) (Obj.plc kf pl) y cv) :
    Inv c F (pl.set k' p') { st with ob := (st.ob.set k .dead).set k' (.arr kf n es') } a w' := by
  obtain ⟨q, hq, hro⟩ := h.wr.rep k _ hk
  cases hp.symm.trans hq
  obtain ⟨r1, r2, r3, r4, r5⟩ := hro
  have hkk : k ≠ k' := by rintro rfl; rw [hk] at hk'; cases hk'
  have hpk : pl k' = none := h.wr.non k' hk'
  have hpl : ∀ l q, pl l = some q → pl.set k' p' l = some q := fun l q hl => by
    rw [Places.set_ne]; exact hl
    rintro rfl; rw [hpk] at hl; cases hl
  have hZF : ∀ b o, F b o → ¬ p.has b o := fun b o hf hh => by have := hh.1; subst this; exact (r4 o hh).2.2 hf
  have hFm : ∀ b o, F b o → F b o ∧ memOf w' b o = memOf w b o := fun b o hf => ⟨hf, hs.cell b o (memOf_lt (h.wr.fex b o hf)) (hZF b o hf)⟩
  refine h.turn (F' := F) hs hZF (fun b o hz _ => h.own k _ p b o hk rfl hp hz) (fun _ _ h => h) (fun _ _ h => .inl h) hpl ?_ ?_ (fun l q h0 hq => by
    rw [Places.set_ne _ _ (by rintro rfl; exact hk0 h0)] at hq; exact hq)
  · refine h.wr.turn hs hZF (fun _ _ h => h) (fun _ _ h => .inl h) hpl (fun l x hl => ?_) (fun l hl => ?_) ?_
    · by_cases hlk' : l = k'
      · subst hlk'
        rw [Store.set_self] at hl; cases hl
        refine .inr ⟨p', Places.set_self _ _ _, hpn, r2, hle, fun o ho => ?_, fun j x hx => ?_⟩
        · have ho' := hsub _ _ ho
          rw [hpb] at ho' ⊢
          exact ⟨(hex o ho').1, (hex o ho').2, (r4 o ho').2.2⟩
        · obtain ⟨h1, h2⟩ := hr j x hx
          refine ⟨h1, fun c y hy => ?_⟩
          obtain ⟨g1, cv, g2, g3⟩ := h2 c y hy
          exact ⟨g1, cv, g2, g3.mono hFm (plc_mono hpl)⟩
      · rw [Store.set_ne _ _ hlk'] at hl
        by_cases hlk : l = k
        · subst hlk
          rw [Store.set_self] at hl; cases hl
          exact .inr ⟨p, hpl _ _ hp, trivial⟩
        · rw [Store.set_ne _ _ hlk] at hl
          exact .inl ⟨hl, fun hv q o hq ho => ⟨fun hz => h.wr.dis l k x _ q p _ o hlk hl hk hv rfl hq hp ho hz, (live_lt h.wr hl hv hq ho).2.2⟩⟩
    · by_cases hlk' : l = k'
      · subst hlk'; rw [Store.set_self] at hl; cases hl
      · rw [Store.set_ne _ _ hlk'] at hl
        rw [Places.set_ne _ _ hlk']
        by_cases hlk : l = k
        · subst hlk; rw [Store.set_self] at hl; cases hl
        · rw [Store.set_ne _ _ hlk] at hl; exact h.wr.non l hl
    · -- apart
      have old : ∀ l x q, ((st.ob.set k .dead).set k' (.arr kf n es')) l = some x → x.live = true → pl.set k' p' l = some q → l ≠ k' → l ≠ k ∧ st.ob l = some x ∧ pl l = some q := by
        intro l x q hl hx hq hlk'
        rw [Store.set_ne _ _ hlk'] at hl; rw [Places.set_ne _ _ hlk'] at hq
        by_cases hlk : l = k
        · subst hlk; rw [Store.set_self] at hl; cases hl; cases hx
        · rw [Store.set_ne _ _ hlk] at hl; exact ⟨hlk, hl, hq⟩
      intro l1 l2 x y p1 q1 b o hne h1 h2 hx hy hp1 hq1 hpo hqo
      by_cases e1 : l1 = k'
      · subst e1
        rw [Places.set_self] at hp1; cases hp1
        obtain ⟨n2, o2, q2⟩ := old l2 y q1 h2 hy hq1 (Ne.symm hne)
        exact h.wr.dis l2 k y _ q1 p b o n2 o2 hk hy rfl q2 hp hqo (hsub _ _ hpo)
      · obtain ⟨n1, o1, q1'⟩ := old l1 x p1 h1 hx hp1 e1
        by_cases e2 : l2 = k'
        · subst e2
          rw [Places.set_self] at hq1; cases hq1
          exact h.wr.dis l1 k x _ p1 p b o n1 o1 hk hx rfl q1' hp hpo (hsub _ _ hqo)
        · obtain ⟨n2, o2, q2⟩ := old l2 y q1 h2 hy hq1 e2
          exact h.wr.dis l1 l2 x y p1 q1 b o hne o1 o2 hx hy q1' q2 hpo hqo
  · intro l x q b o hl hx hq ho
    by_cases e1 : l = k'
    · subst e1
      rw [Places.set_self] at hq; cases hq
      exact h.own k _ p b o hk rfl hp (hsub _ _ ho)
    · rw [Store.set_ne _ _ e1] at hl; rw [Places.set_ne _ _ e1] at hq
      by_cases hlk : l = k
      · subst hlk; rw [Store.set_self] at hl; cases hl; cases hx
      · rw [Store.set_ne _ _ hlk] at hl
        exact h.own l x q b o hl hx hq ho

/-- An object is given up. -/
theorem Inv.drop {c : Ctx} {F : Cells} {pl : Places} {st : St} {a : Act} {w : World} (h : Inv c F pl st a w) {k : Key} {x : Obj} (hk : st.ob k = some x) :
    Inv c F pl { st with ob := st.ob.set k .dead } a w := by
  obtain ⟨p, hp, _⟩ := h.wr.rep k _ hk
  have old : ∀ l y, (st.ob.set k .dead) l = some y → y.live = true → st.ob l = some y := by
    intro l y hl hy
    by_cases e : l = k
    · subst e; rw [Store.set_self] at hl; cases hl; cases hy
    · rw [Store.set_ne _ _ e] at hl; exact hl
  refine h.turn (F' := F) (Same.refl noCells w) (fun _ _ _ h => h) (fun _ _ h => h.elim) (fun _ _ h => h) (fun _ _ h => .inl h) (fun _ _ h => h) ?_ (fun l y q b o hl hy => h.own l y q b o (old l y hl hy) hy) (fun _ _ _ h => h)
  refine h.wr.turn (Same.refl noCells w) (fun _ _ _ h => h) (fun _ _ h => h) (fun _ _ h => .inl h) (fun _ _ h => h) (fun l y hl => ?_) (fun l hl => ?_)
    (fun l1 l2 x y p q b o hne h1 h2 hx hy => h.wr.dis l1 l2 x y p q b o hne (old _ _ h1 hx) (old _ _ h2 hy) hx hy)
  · by_cases e : l = k
    · subst e; rw [Store.set_self] at hl; cases hl; exact .inr ⟨p, hp, trivial⟩
    · rw [Store.set_ne _ _ e] at hl
      exact .inl ⟨hl, fun hv q o hq ho => ⟨fun h => h, (live_lt h.wr hl hv hq ho).2.2⟩⟩
  · by_cases e : l = k
    · subst e; rw [Store.set_self] at hl; cases hl
    · rw [Store.set_ne _ _ e] at hl; exact h.wr.non l hl

/-- An object is never written again. -/
theorem Inv.freeze {c : Ctx} {F : Cells} {pl : Places} {st : St} {a : Act} {w : World} (h : Inv c F pl st a w) {k : Key} {n : Nat} {es : List V} {p : Pl} (hk : st.ob k = some (.arr true n es)) (hp : pl k = some p) :
    Inv c (fun b o => F b o ∨ p.has b o) pl { st with ob := st.ob.set k (.froz n es) } a w := by
  obtain ⟨q, hq, hro⟩ := h.wr.rep k _ hk
  cases hp.symm.trans hq
  obtain ⟨r1, r2, r3, r4, r5⟩ := hro
  have old : ∀ l y, (st.ob.set k (.froz n es)) l = some y → y.live = true → l ≠ k ∧ st.ob l = some y := by
    intro l y hl hy
    by_cases e : l = k
    · subst e; rw [Store.set_self] at hl; cases hl; cases hy
    · rw [Store.set_ne _ _ e] at hl; exact ⟨e, hl⟩
  have hFm : ∀ b o, F b o → (F b o ∨ p.has b o) ∧ memOf w b o = memOf w b o := fun b o h => ⟨.inl h, rfl⟩
  refine h.turn (Same.refl noCells w) (fun _ _ _ h => h) (fun _ _ h => h.elim) (fun _ _ h => .inl h) (fun b o hf => hf.imp id (fun ho => h.own k _ p b o hk rfl hp ho)) (fun _ _ h => h) ?_
    (fun l y q b o hl hy => h.own l y q b o (old l y hl hy).2 hy) (fun _ _ _ h => h)
  refine h.wr.turn (Same.refl noCells w) (fun _ _ _ h => h) (fun _ _ h => .inl h) (fun b o hf => hf.imp id (fun ho => by have := ho.1; subst this; exact (r4 o ho).1)) (fun _ _ h => h) (fun l y hl => ?_) (fun l hl => ?_)
    (fun l1 l2 x y p q b o hne h1 h2 hx hy => h.wr.dis l1 l2 x y p q b o hne (old _ _ h1 hx).2 (old _ _ h2 hy).2 hx hy)
  · by_cases e : l = k
    · subst e
      rw [Store.set_self] at hl; cases hl
      refine .inr ⟨p, hp, r1, r2, r3, fun j e he => ?_⟩
      have hj := (List.getElem?_eq_some_iff.1 he).1
      exact ⟨(r5 j e he).turn hFm (fun _ _ h => h) (fun _ _ => rfl), fun c hc => .inr (pl_has r1 r3 hj hc)⟩
    · rw [Store.set_ne _ _ e] at hl
      refine .inl ⟨hl, fun hv q o hq ho => ⟨fun h => h, ?_⟩⟩
      rintro (hf | hf)
      · exact (live_lt h.wr hl hv hq ho).2.2 hf
      · exact h.wr.dis l k y _ q p _ o e hl hk hv rfl hq hp ho hf
  · by_cases e : l = k
    · subst e; rw [Store.set_self] at hl; cases hl
    · rw [Store.set_ne _ _ e] at hl; exact h.wr.non l hl
end Go.Eng
