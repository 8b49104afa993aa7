import Derived.Orders
import Derived.Below
import Derived.KernelRfl
import Derived.ChangeKeysEq
import Derived.ArgAppend
/- A machine of values for the program's code, part 1: values, objects, states, and what they say of the memory. -/
namespace Go.Eng
open Go.RowKit

abbrev Key := Nat × Nat

/-- A value of the machine. `lp`, `ls`: a pointer, a slice into an object of the state (key, element, cell ¦ length). `ip`, `is`: the same into memory that nobody changes, with what it holds. -/
inductive V where
  | un
  | lit (v : Value)
  | e0
  | lp (k : Key) (n i off : Nat)
  | ls (k : Key) (n i len : Nat)
  | ip (n : Nat) (es : List V) (i off : Nat)
  | is (n : Nat) (es : List V)
  | fn (f : FuncId) (caps : List V)
  | agg (cs : List V)
  | tup (vs : List V)
  deriving Inhabited

def V.cells : V → List V
  | .agg cs => cs
  | v => [v]

def scal : V → Bool
  | .un | .agg _ | .tup _ | .lit (.agg _) | .lit (.tuple _) => false
  | _ => true

mutual
def V.ments : V → List Key
  | .lp k _ _ _ => [k]
  | .ls k _ _ _ => [k]
  | .fn _ cs => mentsL cs
  | .agg cs => mentsL cs
  | .tup cs => mentsL cs
  | _ => []
def mentsL : List V → List Key
  | [] => []
  | v :: vs => v.ments ++ mentsL vs
end

mutual
def V.ren (s : Key → Key) : V → V
  | .lp k n i o => .lp (s k) n i o
  | .ls k n i l => .ls (s k) n i l
  | .fn f cs => .fn f (renL s cs)
  | .agg cs => .agg (renL s cs)
  | .tup cs => .tup (renL s cs)
  | .un => .un
  | .e0 => .e0
  | .lit v => .lit v
  | .ip n es i o => .ip n es i o
  | .is n es => .is n es
def renL (s : Key → Key) : List V → List V
  | [] => []
  | v :: vs => v.ren s :: renL s vs
end

def ofVal : Value → V
  | .agg cs => .agg (cs.toList.map .lit)
  | v => .lit v

/-- An object: a row of elements of `n` cells each. `kf`: its elements name no objects. -/
inductive Obj where
  | dead
  | arr (kf : Bool) (n : Nat) (es : List V)
  | froz (n : Nat) (es : List V)

def Obj.ren (s : Key → Key) : Obj → Obj
  | .dead => .dead
  | .arr true n es => .arr true n es
  | .arr false n es => .arr false n (renL s es)
  | .froz n es => .froz n es

def Obj.ments : Obj → List Key
  | .arr false _ es => mentsL es
  | _ => []

abbrev Store := Key → Option Obj

structure St where
  tm : List V
  ob : Store

/-- Where an object lies: block, first cell, cells of an element, room in elements. -/
structure Pl where
  b : Nat
  base : Nat
  n : Nat
  C : Nat

def Pl.has (p : Pl) (b o : Nat) : Prop := b = p.b ∧ p.base ≤ o ∧ o < p.base + p.C * p.n

abbrev Mem := Nat → Nat → Option Value
def memOf (w : World) : Mem := fun b o => w.cell? ⟨b, o, none⟩
abbrev Cells := Nat → Nat → Prop
abbrev Places := Key → Option Pl
def noPl : Places := fun _ => none

inductive RepV (F : Cells) (m : Mem) : Places → V → Value → Prop where
  | un {pl cv} : RepV F m pl .un cv
  | lit {pl v} : RepV F m pl (.lit v) v
  | e0 {pl a} : RepV F m pl .e0 (.slice (some a) 0 0)
  | e0n {pl} : RepV F m pl .e0 (.slice none 0 0)
  | isn {pl n} : RepV F m pl (.is n []) (.slice none 0 0)
  | lp {pl k n i off p} : pl k = some p → p.n = n → RepV F m pl (.lp k n i off) (.pointer (some ⟨p.b, p.base + i * n + off, none⟩))
  | ls {pl k n i len p a cap} : pl k = some p → p.n = n → len ≤ cap → i + cap ≤ p.C → (cap ≠ 0 → a = ⟨p.b, p.base + i * n, none⟩) →
      RepV F m pl (.ls k n i len) (.slice (some a) len cap)
  | ip {pl es i off b base n} (cf : Nat → Nat → Value) : (∀ (j : Nat) e, es[j]? = some e → e.cells.length = n) →
      (∀ (j : Nat) e (c : Nat) x, es[j]? = some e → e.cells[c]? = some x → scal x = true ∧ F b (base + j * n + c) ∧ m b (base + j * n + c) = some (cf j c)) →
      (∀ (j : Nat) e (c : Nat) x, es[j]? = some e → e.cells[c]? = some x → RepV F m noPl x (cf j c)) →
      RepV F m pl (.ip n es i off) (.pointer (some ⟨b, base + i * n + off, none⟩))
  | is {pl es a cap n} (cf : Nat → Nat → Value) : es.length ≤ cap → (es ≠ [] → a.spot = none) → (∀ (j : Nat) e, es[j]? = some e → e.cells.length = n) →
      (∀ (j : Nat) e (c : Nat) x, es[j]? = some e → e.cells[c]? = some x → scal x = true ∧ F a.block (a.off + j * n + c) ∧ m a.block (a.off + j * n + c) = some (cf j c)) →
      (∀ (j : Nat) e (c : Nat) x, es[j]? = some e → e.cells[c]? = some x → RepV F m noPl x (cf j c)) →
      RepV F m pl (.is n es) (.slice (some a) es.length cap)
  | fn {pl f caps} (cs : Array Value) : cs.size = caps.length → (∀ (i : Nat) x (h : i < cs.size), caps[i]? = some x → RepV F m pl x cs[i]) →
      RepV F m pl (.fn f caps) (.func (.func f) #[] cs)
  | agg {pl vs} (cs : Array Value) : cs.size = vs.length → (∀ (i : Nat) x (h : i < cs.size), vs[i]? = some x → RepV F m pl x cs[i]) →
      RepV F m pl (.agg vs) (.agg cs)
  | tup {pl vs} (cs : Array Value) : cs.size = vs.length → (∀ (i : Nat) x (h : i < cs.size), vs[i]? = some x → RepV F m pl x cs[i]) →
      RepV F m pl (.tup vs) (.tuple cs)

theorem RepV.mono {F F' : Cells} {m m' : Mem} {pl : Places} {v : V} {cv : Value} (h : RepV F m pl v cv) :
    ∀ {pl' : Places}, (∀ b o, F b o → F' b o ∧ m' b o = m b o) → (∀ k p, pl k = some p → pl' k = some p) → RepV F' m' pl' v cv := by
  induction h with
  | un => intro _ _ _; exact .un
  | lit => intro _ _ _; exact .lit
  | e0 => intro _ _ _; exact .e0
  | e0n => intro _ _ _; exact .e0n
  | isn => intro _ _ _; exact .isn
  | lp hp h0 => intro _ _ hpl; exact .lp (hpl _ _ hp) h0
  | ls hp h0 h1 h2 h3 => intro _ _ hpl; exact .ls (hpl _ _ hp) h0 h1 h2 h3
  | ip cf h1 h2 _ ih =>
    intro _ hF _
    refine .ip cf h1 (fun j e c x he hx => ?_) (fun j e c x he hx => ih j e c x he hx hF (fun _ _ h => h))
    obtain ⟨hs, hf, hm⟩ := h2 j e c x he hx
    exact ⟨hs, (hF _ _ hf).1, (hF _ _ hf).2.trans hm⟩
  | is cf h0 h00 h1 h2 _ ih =>
    intro _ hF _
    refine .is cf h0 h00 h1 (fun j e c x he hx => ?_) (fun j e c x he hx => ih j e c x he hx hF (fun _ _ h => h))
    obtain ⟨hs, hf, hm⟩ := h2 j e c x he hx
    exact ⟨hs, (hF _ _ hf).1, (hF _ _ hf).2.trans hm⟩
  | fn cs h1 _ ih => intro _ hF hpl; exact .fn cs h1 (fun i x h hx => ih i x h hx hF hpl)
  | agg cs h1 _ ih => intro _ hF hpl; exact .agg cs h1 (fun i x h hx => ih i x h hx hF hpl)
  | tup cs h1 _ ih => intro _ hF hpl; exact .tup cs h1 (fun i x h hx => ih i x h hx hF hpl)

theorem RepV.ofNo {F : Cells} {m : Mem} {pl : Places} {v : V} {cv : Value} (h : RepV F m noPl v cv) : RepV F m pl v cv :=
  h.mono (fun _ _ h => ⟨h, rfl⟩) (fun _ _ h => nomatch h)

theorem ments_mem {v : V} {vs : List V} (h : v ∈ vs) : ∀ k, k ∈ v.ments → k ∈ mentsL vs := by
  induction vs with
  | nil => cases h
  | cons a t ih =>
    intro k hk
    simp only [mentsL, List.mem_append]
    cases h with
    | head => exact .inl hk
    | tail _ h => exact .inr (ih h k hk)

/-- Only the places of the keys that a value names matter. -/
theorem RepV.places {F : Cells} {m : Mem} {pl : Places} {v : V} {cv : Value} (h : RepV F m pl v cv) :
    ∀ {pl' : Places}, (∀ k p, k ∈ v.ments → pl k = some p → pl' k = some p) → RepV F m pl' v cv := by
  induction h with
  | un => intro _ _; exact .un
  | lit => intro _ _; exact .lit
  | e0 => intro _ _; exact .e0
  | e0n => intro _ _; exact .e0n
  | isn => intro _ _; exact .isn
  | lp hp h0 => intro _ hpl; exact .lp (hpl _ _ (by simp [V.ments]) hp) h0
  | ls hp h0 h1 h2 h3 => intro _ hpl; exact .ls (hpl _ _ (by simp [V.ments]) hp) h0 h1 h2 h3
  | ip cf h1 h2 h3 ih => intro _ _; exact .ip cf h1 h2 h3
  | is cf h0 h00 h1 h2 h3 ih => intro _ _; exact .is cf h0 h00 h1 h2 h3
  | fn cs h1 _ ih => intro _ hpl; exact .fn cs h1 (fun i x h hx => ih i x h hx (fun k p hk => hpl k p (by simp only [V.ments]; exact ments_mem (List.mem_of_getElem? hx) k hk)))
  | agg cs h1 _ ih => intro _ hpl; exact .agg cs h1 (fun i x h hx => ih i x h hx (fun k p hk => hpl k p (by simp only [V.ments]; exact ments_mem (List.mem_of_getElem? hx) k hk)))
  | tup cs h1 _ ih => intro _ hpl; exact .tup cs h1 (fun i x h hx => ih i x h hx (fun k p hk => hpl k p (by simp only [V.ments]; exact ments_mem (List.mem_of_getElem? hx) k hk)))

theorem renL_get {s : Key → Key} (vs : List V) (i : Nat) : (renL s vs)[i]? = (vs[i]?).map (V.ren s) := by
  induction vs generalizing i with
  | nil => simp [renL]
  | cons a t ih => cases i <;> simp [renL, ih]

theorem renL_length {s : Key → Key} (vs : List V) : (renL s vs).length = vs.length := by
  induction vs with
  | nil => rfl
  | cons a t ih => simp [renL, ih]

theorem RepV.ren {F : Cells} {m : Mem} {pl : Places} {v : V} {cv : Value} (h : RepV F m pl v cv) :
    ∀ {pl' : Places} {s : Key → Key}, (∀ k p, k ∈ v.ments → pl k = some p → pl' (s k) = some p) → RepV F m pl' (v.ren s) cv := by
  induction h with
  | un => intro _ _ _; exact .un
  | lit => intro _ _ _; exact .lit
  | e0 => intro _ _ _; exact .e0
  | e0n => intro _ _ _; exact .e0n
  | isn => intro _ _ _; exact .isn
  | lp hp h0 => intro _ _ hpl; exact .lp (hpl _ _ (by simp [V.ments]) hp) h0
  | ls hp h0 h1 h2 h3 => intro _ _ hpl; exact .ls (hpl _ _ (by simp [V.ments]) hp) h0 h1 h2 h3
  | ip cf h1 h2 h3 ih => intro _ _ _; exact .ip cf h1 h2 h3
  | is cf h0 h00 h1 h2 h3 ih => intro _ _ _; exact .is cf h0 h00 h1 h2 h3
  | fn cs h1 _ ih =>
    intro _ s hpl
    refine .fn cs (by rw [h1, renL_length]) (fun i x h hx => ?_)
    rw [renL_get] at hx
    obtain ⟨y, hy, rfl⟩ := Option.map_eq_some_iff.1 hx
    exact ih i y h hy (fun k p hk => hpl k p (by simp only [V.ments]; exact ments_mem (List.mem_of_getElem? hy) k hk))
  | agg cs h1 _ ih =>
    intro _ s hpl
    refine .agg cs (by rw [h1, renL_length]) (fun i x h hx => ?_)
    rw [renL_get] at hx
    obtain ⟨y, hy, rfl⟩ := Option.map_eq_some_iff.1 hx
    exact ih i y h hy (fun k p hk => hpl k p (by simp only [V.ments]; exact ments_mem (List.mem_of_getElem? hy) k hk))
  | tup cs h1 _ ih =>
    intro _ s hpl
    refine .tup cs (by rw [h1, renL_length]) (fun i x h hx => ?_)
    rw [renL_get] at hx
    obtain ⟨y, hy, rfl⟩ := Option.map_eq_some_iff.1 hx
    exact ih i y h hy (fun k p hk => hpl k p (by simp only [V.ments]; exact ments_mem (List.mem_of_getElem? hy) k hk))

theorem repL {F : Cells} {m : Mem} {pl : Places} (cs : List Value) (i : Nat) (x : V) (h : i < cs.toArray.size) (hx : (cs.map V.lit)[i]? = some x) : RepV F m pl x cs.toArray[i] := by
  simp only [List.getElem?_map, Option.map_eq_some_iff] at hx
  obtain ⟨y, hy, rfl⟩ := hx
  obtain ⟨h1, h2⟩ := List.getElem?_eq_some_iff.1 hy
  subst h2
  exact .lit

theorem rep_ofVal {F : Cells} {m : Mem} {pl : Places} (v : Value) : RepV F m pl (ofVal v) v := by
  cases v <;> first | exact .lit | skip
  rename_i cs
  exact .agg cs (by simp) (fun i x h hx => by simpa using repL cs.toList i x (by simpa using h) hx)

/-- What an element's cells hold. -/
def RepE (F : Cells) (m : Mem) (pl : Places) (b o n : Nat) (e : V) : Prop :=
  e.cells.length = n ∧ ∀ (c : Nat) x, e.cells[c]? = some x → scal x = true ∧ ∃ cv, m b (o + c) = some cv ∧ RepV F m pl x cv

def Obj.plc (kf : Bool) (pl : Places) : Places := if kf then noPl else pl

/-- What an object says of the memory. -/
def RepO (F : Cells) (m : Mem) (fz : Cells) (pl : Places) (p : Pl) : Obj → Prop
  | .dead => True
  | .arr kf n es => p.n = n ∧ 0 < n ∧ es.length ≤ p.C ∧ (∀ o, p.has p.b o → (m p.b o).isSome ∧ ¬ fz p.b o ∧ ¬ F p.b o) ∧
      ∀ (j : Nat) e, es[j]? = some e → RepE F m (Obj.plc kf pl) p.b (p.base + j * n) n e
  | .froz n es => p.n = n ∧ 0 < n ∧ es.length ≤ p.C ∧
      ∀ (j : Nat) e, es[j]? = some e → RepE F m noPl p.b (p.base + j * n) n e ∧ ∀ c, c < n → F p.b (p.base + j * n + c)

def frozOf (w : World) : Cells := fun b o => w.frozen? ⟨b, o, none⟩ = true

def Obj.live : Obj → Bool
  | .arr .. => true
  | _ => false

/-- What the objects of a store say of the world. -/
structure WR (F : Cells) (pl : Places) (ob : Store) (w : World) : Prop where
  rep : ∀ k o, ob k = some o → ∃ p, pl k = some p ∧ RepO F (memOf w) (frozOf w) pl p o
  non : ∀ k, ob k = none → pl k = none
  dis : ∀ k l x y p q b o, k ≠ l → ob k = some x → ob l = some y → x.live = true → y.live = true → pl k = some p → pl l = some q → p.has b o → q.has b o → False
  fex : ∀ b o, F b o → (memOf w b o).isSome

/-- Old memory outside X is as it was; the streams, too. -/
structure Same (X : Cells) (w w' : World) : Prop where
  os : w'.os = w.os
  tape : w'.tape = w.tape
  output : w'.output = w.output
  size : w.heap.size ≤ w'.heap.size
  cell : ∀ b o, b < w.heap.size → ¬ X b o → memOf w' b o = memOf w b o
  froz : ∀ b o, b < w.heap.size → ¬ X b o → (frozOf w' b o ↔ frozOf w b o)
  blk : ∀ b, b < w.heap.size → (∀ o, ¬ X b o) → w'.heap[b]? = w.heap[b]?

theorem Same.refl (X : Cells) (w : World) : Same X w w := ⟨rfl, rfl, rfl, Nat.le_refl _, fun _ _ _ _ => rfl, fun _ _ _ _ => Iff.rfl, fun _ _ _ => rfl⟩
theorem Same.trans {X : Cells} {a b c : World} (h : Same X a b) (k : Same X b c) : Same X a c :=
  ⟨k.os.trans h.os, k.tape.trans h.tape, k.output.trans h.output, Nat.le_trans h.size k.size,
    fun x y hx hy => (k.cell x y (Nat.lt_of_lt_of_le hx h.size) hy).trans (h.cell x y hx hy),
    fun x y hx hy => (k.froz x y (Nat.lt_of_lt_of_le hx h.size) hy).trans (h.froz x y hx hy),
    fun x hx hy => (k.blk x (Nat.lt_of_lt_of_le hx h.size) hy).trans (h.blk x hx hy)⟩

/-- The run of one function: the world at its call, what was unchangeable then, and the cells that it was handed. -/
structure Ctx where
  w0 : World
  pl0 : Places
  F0 : Cells
  X0 : Cells

def Ctx.mine (c : Ctx) : Cells := fun b o => c.X0 b o ∨ c.w0.heap.size ≤ b

structure Inv (c : Ctx) (F : Cells) (pl : Places) (st : St) (a : Act) (w : World) : Prop where
  defers : a.defers = []
  tm : ∀ (i : Nat) v, st.tm[i]? = some v → ∃ h : i < a.tmps.size, RepV F (memOf w) pl v a.tmps[i]
  wr : WR F pl st.ob w
  f0 : ∀ b o, c.F0 b o → F b o
  ff : ∀ b o, F b o → c.F0 b o ∨ c.mine b o
  own : ∀ k x p b o, st.ob k = some x → x.live = true → pl k = some p → p.has b o → c.mine b o
  same : Same c.X0 c.w0 w
  arg : ∀ (k : Key) p, k.1 = 0 → pl k = some p → c.pl0 k = some p

def ev (tm : List V) : Operand → V
  | .tmp t => tm.getD t .un
  | .const v => ofVal v
  | .func f => .fn f []
  | .global _ => .un

theorem ev_rep {c : Ctx} {F : Cells} {pl : Places} {st : St} {a : Act} {w : World} (h : Inv c F pl st a w) (x : Operand) :
    RepV F (memOf w) pl (ev st.tm x) (a.eval x) := by
  cases x with
  | tmp t =>
    simp only [ev, Act.eval]
    cases ht : st.tm[t]? with
    | none => simp [List.getD, ht]; exact .un
    | some v =>
      obtain ⟨hlt, hr⟩ := h.tm t v ht
      simp only [List.getD, ht, Option.getD_some]
      simpa [hlt] using hr
  | const v => exact rep_ofVal v
  | global g => exact .un
  | func f => exact .fn #[] rfl (fun i x h => absurd h (by simp))

def St.put (s : St) (dst : Option Nat) (v : V) : St :=
  match dst with
  | none => s
  | some d => { s with tm := s.tm.set d v }

theorem Inv.put {c : Ctx} {F : Cells} {pl : Places} {st : St} {a : Act} {w : World} (h : Inv c F pl st a w) (dst : Option Nat) {v : V} {cv : Value}
    (hv : RepV F (memOf w) pl v cv) : Inv c F pl (st.put dst v) (a.put dst cv) w := by
  cases dst with
  | none => exact h
  | some d =>
    refine ⟨h.defers, fun i x hx => ?_, h.wr, h.f0, h.ff, h.own, h.same, h.arg⟩
    simp only [St.put, List.getElem?_set] at hx
    split at hx
    · rename_i hd
      subst hd
      split at hx
      · rename_i hlt
        cases hx
        obtain ⟨hlt', _⟩ := h.tm d _ (List.getElem?_eq_getElem hlt)
        exact ⟨by simpa [Act.put] using hlt', by simpa [Act.put] using hv⟩
      · cases hx
    · rename_i hd
      obtain ⟨hlt, hr⟩ := h.tm i x hx
      refine ⟨by simpa [Act.put] using hlt, ?_⟩
      have := Array.getElem_setIfInBounds_ne (xs := a.tmps) (a := cv) hlt hd
      simp only [Act.put]
      rw [this]
      exact hr
end Go.Eng

/- A machine of values for the program's code, part 2: operations that only compute. -/
namespace Go.Eng
open Go.RowKit

/-- What a zero cell is. -/
inductive Z where
  | int (k : IntKind) | bool | str | ptr | slice | nilf | nili
  deriving DecidableEq

def Z.val : Z → Value
  | .int k => .int k 0
  | .bool => .bool false
  | .str => .string .empty
  | .ptr => .pointer none
  | .slice => .slice none 0 0
  | .nilf => .nilFunc
  | .nili => .nilIface

def Z.is : Z → Value → Bool
  | .int k, .int k' n => k == k' && n == 0
  | .bool, .bool b => !b
  | .str, .string s => s.size == 0
  | .ptr, .pointer a => a.isNone
  | .slice, .slice a l c => a.isNone && l == 0 && c == 0
  | .nilf, .nilFunc => true
  | .nili, .nilIface => true
  | _, _ => false

theorem Z.is_eq {z : Z} {v : Value} (h : z.is v = true) : v = z.val := by
  cases z <;> cases v <;> simp only [Z.is, Bool.false_eq_true, Bool.and_eq_true, beq_iff_eq, Bool.not_eq_true', Option.isNone_iff_eq_none] at h
  · obtain ⟨h1, h2⟩ := h; subst h1 h2; rfl
  · subst h; rfl
  · rename_i s
    cases s; rename_i d
    cases d; rename_i l
    cases l with
    | nil => rfl
    | cons a t => simp [ByteArray.size] at h
  · subst h; rfl
  · obtain ⟨⟨h1, h2⟩, h3⟩ := h; subst h1 h2 h3; rfl
  · rfl
  · rfl

/-- A type as the machine sees it: for a struct, each field's first cell, size and whether it is an aggregate. -/
inductive TD where
  | int (k : IntKind) | bool | str | ptr | func
  | struct (fs : List (Nat × TypeId))
  | slice (e : TypeId)
  | other

structure TI where
  td : TD
  size : Nat
  bytes : Nat
  zero : List Z

abbrev TT := TypeId → Option TI

def TD.isAgg : TD → Bool
  | .struct _ => true
  | _ => false

def TD.is : TD → TypeDesc → Bool
  | .int k, .int k' => k == k'
  | .bool, .bool => true
  | .str, .string => true
  | .ptr, .pointer _ => true
  | .func, .func _ _ _ => true
  | .struct fs, .struct fields => fs == fields.toList.map (fun f => (f.offset, f.type))
  | .slice e, .slice e' => e == e'
  | .other, .interface _ => true
  | _, _ => false

def zerosIs : List Z → List Value → Bool
  | [], [] => true
  | z :: zs, v :: vs => z.is v && zerosIs zs vs
  | _, _ => false

def TI.zis (ti : TI) (z : Value) : Bool :=
  match ti.td.isAgg, z with
  | true, .agg cs => zerosIs ti.zero cs.toList
  | false, v => match ti.zero with | [z] => z.is v | _ => false
  | _, _ => false

/-- A struct whose values are compared field by field. -/
def eqPlain (P : Program) (t : TypeId) : TypeDesc → Bool
  | .struct fields => !P.stoodInHeld t && fields.toList.all (fun f => f.name != "_") && !P.eqGuardType P.depth t
  | _ => true

def tiCheck (P : Program) (t : TypeId) (ti : TI) : Bool :=
  match P.info? t, P.underlying t with
  | some i, some d => i.size == ti.size && i.bytes == ti.bytes && (match i.zero with | some z => ti.zis z | none => false) && ti.td.is d && ti.zero.length == ti.size && eqPlain P t d
  | _, _ => false

def TTok (P : Program) (tt : TT) : Prop := ∀ t ti, tt t = some ti → tiCheck P t ti = true

theorem zerosIs_eq : ∀ {zs : List Z} {vs : List Value}, zerosIs zs vs = true → vs = zs.map Z.val
  | [], [], _ => rfl
  | z :: zs, v :: vs, h => by
    simp only [zerosIs, Bool.and_eq_true] at h
    rw [Z.is_eq h.1, zerosIs_eq h.2]; rfl
  | [], _ :: _, h => by simp [zerosIs] at h
  | _ :: _, [], h => by simp [zerosIs] at h

def TI.zeroVal (ti : TI) : Value :=
  match ti.td.isAgg with
  | true => .agg (ti.zero.map Z.val).toArray
  | false => match ti.zero with | [z] => z.val | _ => undef

def TI.zeroV (ti : TI) : V :=
  match ti.td.isAgg with
  | true => .agg (ti.zero.map fun z => .lit z.val)
  | false => match ti.zero with | [z] => .lit z.val | _ => .un

structure TOk (P : Program) (t : TypeId) (ti : TI) (i : TypeInfo) (d : TypeDesc) : Prop where
  info : P.info? t = some i
  und : P.underlying t = some d
  size : i.size = ti.size
  bytes : i.bytes = ti.bytes
  zero : i.zero = some ti.zeroVal
  isd : ti.td.is d = true
  zl : ti.zero.length = ti.size
  zs : ti.td.isAgg = false → ti.size = 1
  eqp : eqPlain P t d = true

theorem TTok.get {P : Program} {tt : TT} (h : TTok P tt) {t : TypeId} {ti : TI} (ht : tt t = some ti) : ∃ i d, TOk P t ti i d := by
  have := h t ti ht
  unfold tiCheck at this
  split at this
  · rename_i i d hi hd
    simp only [Bool.and_eq_true, beq_iff_eq] at this
    obtain ⟨⟨⟨⟨⟨h1, h2⟩, h3⟩, h4⟩, h5⟩, h6⟩ := this
    split at h3
    · rename_i z hz
      refine ⟨i, d, hi, hd, h1, h2, ?_, h4, h5, ?_, h6⟩
      · rw [hz]; congr 1
        unfold TI.zis at h3; unfold TI.zeroVal
        split at h3
        · rename_i cs ha
          simp only [ha]
          have := zerosIs_eq h3
          rw [← this]
        · rename_i ha
          simp only [ha]
          split at h3
          · rename_i z' hz'
            exact Z.is_eq h3
          · cases h3
        · cases h3
      · intro ha
        unfold TI.zis at h3
        simp only [ha] at h3
        split at h3
        · rename_i hz'; rw [hz'] at h5; simpa using h5.symm
        · cases h3
    · cases h3
  · cases this

section runs
variable {P : Program} (w : World)
theorem TOk.agg {t ti i d} (h : TOk P t ti i d) : (isAgg t).run P w = .ok ti.td.isAgg w := by
  have := h.isd
  simp only [isAgg, Sem.run_bind, run_underlying h.und, Result.andThen]
  cases htd : ti.td <;> cases d <;> simp only [htd, TD.is, Bool.false_eq_true] at this <;> rfl
theorem TOk.sizeOf {t ti i d} (h : TOk P t ti i d) : (sizeOf t).run P w = .ok ti.size w := by
  simp [Go.sizeOf, typeInfo, h.info, h.size]
theorem TOk.zeroValue {t ti i d} (h : TOk P t ti i d) : (zeroValue t).run P w = .ok ti.zeroVal w := by
  simp [Go.zeroValue, typeInfo, h.info, h.zero]
end runs

theorem TI.zero_rep {F : Cells} {m : Mem} {pl : Places} (ti : TI) : RepV F m pl ti.zeroV ti.zeroVal := by
  unfold TI.zeroV TI.zeroVal
  split
  · refine .agg _ (by simp) (fun i x h hx => ?_)
    have := repL (F := F) (m := m) (pl := pl) (ti.zero.map Z.val) i x (by simpa using h) (by simpa [List.map_map] using hx)
    simpa using this
  · split <;> first | exact .lit | exact .un

/-- Part of an aggregate: the cells from `off` on. -/
def partV (ti : TI) (cs : List V) (off : Nat) : Option V :=
  match ti.td.isAgg with
  | true => if off + ti.size ≤ cs.length then some (.agg ((cs.drop off).take ti.size)) else none
  | false => cs[off]?

def fillV (place : Nat → Option (Nat × Nat)) (cells : List V) : List (Nat × V) → Option (List V)
  | [] => some cells
  | (i, v) :: rest =>
    match place i with
    | none => none
    | some (off, size) =>
      if v.cells.length = size ∧ off + size ≤ cells.length ∧ v.cells.all scal = true then fillV place (cells.take off ++ v.cells ++ cells.drop (off + size)) rest else none

def bitV (k : IntKind) (f : BitVec k.bits → BitVec k.bits → BitVec k.bits) (x y : Int) : V :=
  .lit (.int k (k.wrap (f (BitVec.ofInt k.bits x) (BitVec.ofInt k.bits y)).toNat))

def intBinV (op : BinOp) (k : IntKind) (x y : Int) : Option V :=
  match op with
  | .add => some (.lit (.int k (k.wrap (x + y))))
  | .sub => some (.lit (.int k (k.wrap (x - y))))
  | .mul => some (.lit (.int k (k.wrap (x * y))))
  | .quo => if y = 0 then none else some (.lit (.int k (k.wrap (x.tdiv y))))
  | .rem => if y = 0 then none else some (.lit (.int k (x.tmod y)))
  | .and => some (bitV k (· &&& ·) x y)
  | .or => some (bitV k (· ||| ·) x y)
  | .xor => some (bitV k (· ^^^ ·) x y)
  | .andNot => some (bitV k (fun a b => a &&& ~~~b) x y)
  | .eql => some (.lit (.bool (x == y)))
  | .neq => some (.lit (.bool (x != y)))
  | .lss => some (.lit (.bool (x < y)))
  | .leq => some (.lit (.bool (x ≤ y)))
  | .gtr => some (.lit (.bool (x > y)))
  | .geq => some (.lit (.bool (x ≥ y)))
  | _ => none

def shiftV (op : BinOp) (k : IntKind) (x y : Int) : Option V :=
  match op with
  | .shl => if 0 ≤ y then some (.lit (.int k (k.wrap (x * 2 ^ min y.toNat k.bits)))) else none
  | .shr => if 0 ≤ y then some (.lit (.int k (x.fdiv (2 ^ min y.toNat k.bits)))) else none
  | _ => none

def strBinV (op : BinOp) (x y : ByteArray) : Option V :=
  match op with
  | .add => if ((x.size + y.size : Nat) : Int) > IntKind.i64.max then none else some (.lit (.string (x ++ y)))
  | .eql => some (.lit (.bool (x.toList == y.toList)))
  | .neq => some (.lit (.bool !(x.toList == y.toList)))
  | _ => none

def isShift : BinOp → Bool
  | .shl | .shr => true
  | _ => false

def nilV : V := .lit (.slice none 0 0)

/-- Whether two rows of fields are the same. -/
def eqFs (E : TypeId → V → V → Option Bool) (tt : TT) (xs ys : List V) : List (Nat × TypeId) → Option Bool
  | [] => some true
  | (o, t) :: fs => match tt t with
    | some ti => match partV ti xs o, partV ti ys o with
      | some a, some b => match E t a b, eqFs E tt xs ys fs with
        | some p, some q => some (p && q)
        | _, _ => none
      | _, _ => none
    | none => none
/-- Whether two values of a type are the same: numbers, and structs of such. -/
def eqV (tt : TT) : Nat → TypeId → V → V → Option Bool
  | 0, _, _, _ => none
  | d + 1, t, x, y => match tt t, x, y with
    | some ⟨.int _, _, _, _⟩, .lit (.int k a), .lit (.int k' b) => if k = k' then some (a == b) else none
    | some ⟨.struct fs, _, _, _⟩, .agg xs, .agg ys => eqFs (eqV tt d) tt xs ys fs
    | _, _, _ => none

def binV (tt : TT) (op : BinOp) (t : TypeId) (a b : V) : Option V :=
  match a, b with
  | .lit (.int k x), .lit (.int k' y) => if isShift op then shiftV op k x y else if k = k' then intBinV op k x y else none
  | .lit (.string x), .lit (.string y) => strBinV op x y
  | .lit (.bool x), .lit (.bool y) =>
    match tt t with
    | some ⟨.bool, _, _, _⟩ => match op with | .eql => some (.lit (.bool (x == y))) | .neq => some (.lit (.bool !(x == y))) | _ => none
    | _ => none
  | .lit (.slice none 0 0), .lit (.slice none 0 0) =>
    match tt t with
    | some ⟨.slice _, _, _, _⟩ => match op with | .eql => some (.lit (.bool true)) | .neq => some (.lit (.bool false)) | _ => none
    | _ => none
  | .lit (.slice (some _) _ _), .lit (.slice none 0 0) =>
    match tt t with
    | some ⟨.slice _, _, _, _⟩ => match op with | .eql => some (.lit (.bool false)) | .neq => some (.lit (.bool true)) | _ => none
    | _ => none
  | .ls _ _ _ _, .lit (.slice none 0 0) =>
    match tt t with
    | some ⟨.slice _, _, _, _⟩ => match op with | .eql => some (.lit (.bool false)) | .neq => some (.lit (.bool true)) | _ => none
    | _ => none
  | .is _ (_ :: _), .lit (.slice none 0 0) =>
    match tt t with
    | some ⟨.slice _, _, _, _⟩ => match op with | .eql => some (.lit (.bool false)) | .neq => some (.lit (.bool true)) | _ => none
    | _ => none
  | .agg xs, .agg ys => match op with
    | .eql => (eqV tt 8 t (.agg xs) (.agg ys)).map fun b => .lit (.bool b)
    | .neq => (eqV tt 8 t (.agg xs) (.agg ys)).map fun b => .lit (.bool (!b))
    | _ => none
  | _, _ => none

def unV (op : UnOp) (a : V) : Option V :=
  match op, a with
  | .neg, .lit (.int k n) => some (.lit (.int k (k.wrap (0 - n))))
  | .xor, .lit (.int k n) => some (bitV k (· ^^^ ·) (if k.signed then -1 else k.max) n)
  | .not, .lit (.bool b) => some (.lit (.bool !b))
  | _, _ => none

/-- The bounds of a cut, of what has length `len` and room `cap` (none: not known). -/
def boundsV (len : Nat) (lo hi mx : Option V) : Option (Nat × Nat) :=
  match mx with
  | some _ => none
  | none =>
    match hi with
    | some (.lit (.int _ h)) => if 0 ≤ h ∧ h ≤ len then
        match lo with
        | some (.lit (.int _ l)) => if 0 ≤ l ∧ l ≤ h then some (l.toNat, h.toNat) else none
        | none => some (0, h.toNat)
        | _ => none
      else none
    | none =>
        match lo with
        | some (.lit (.int _ l)) => if 0 ≤ l ∧ l ≤ len then some (l.toNat, len) else none
        | none => some (0, len)
        | _ => none
    | _ => none

def isZero : Option V → Bool
  | some (.lit (.int _ 0)) => true
  | _ => false

def isAbsent : Option V → Bool
  | none => true
  | _ => false

def sliceV (tt : TT) (t : TypeId) (x : V) (lo hi mx : Option V) : Option V :=
  match tt t, x with
  | some ⟨.str, _, _, _⟩, .lit (.string s) => (boundsV s.size lo hi mx).map fun b => .lit (.string (s.extract b.1 b.2))
  | some ⟨.slice e, _, _, _⟩, .is n es => match tt e with
    | some ti => if isAbsent lo && isZero mx && isZero hi then some .e0 else if ti.size = n then (boundsV es.length lo hi mx).map fun b => .is n ((es.drop b.1).take (b.2 - b.1)) else none
    | none => none
  | some ⟨.slice e, _, _, _⟩, .ls k n i len => match tt e with
    | some ti => if isAbsent lo && isZero mx && isZero hi then some .e0 else if ti.size = n then (boundsV len lo hi mx).map fun b => .ls k n (i + b.1) (b.2 - b.1) else none
    | none => none
  | some ⟨.slice e, _, _, _⟩, .lit (.slice none 0 0) => match tt e with
    | some _ => (boundsV 0 lo hi mx).map fun _ => nilV
    | none => none
  | _, _ => none
end Go.Eng

/- A machine of values for the program's code, part 3: the operations that only compute, and that they say what the program's do. -/
namespace Go.Eng
open Go.RowKit

section inv
variable {F : Cells} {m : Mem} {pl : Places} {cv : Value}
theorem RepV.lit_inv {v} (h : RepV F m pl (.lit v) cv) : cv = v := by cases h; rfl
theorem RepV.e0_inv (h : RepV F m pl .e0 cv) : ∃ a, cv = .slice a 0 0 := by cases h <;> exact ⟨_, rfl⟩
theorem RepV.lp_inv {k n i off} (h : RepV F m pl (.lp k n i off) cv) : ∃ p, pl k = some p ∧ p.n = n ∧ cv = .pointer (some ⟨p.b, p.base + i * n + off, none⟩) := by
  cases h with | lp h0 h1 => exact ⟨_, h0, h1, rfl⟩
theorem RepV.ls_inv {k n i len} (h : RepV F m pl (.ls k n i len) cv) : ∃ p a cap, pl k = some p ∧ p.n = n ∧ len ≤ cap ∧ i + cap ≤ p.C ∧ (cap ≠ 0 → a = ⟨p.b, p.base + i * n, none⟩) ∧ cv = .slice (some a) len cap := by
  cases h with | ls h0 h1 h2 h3 h4 => exact ⟨_, _, _, h0, h1, h2, h3, h4, rfl⟩
theorem RepV.agg_inv {vs} (h : RepV F m pl (.agg vs) cv) : ∃ cs : Array Value, cv = .agg cs ∧ cs.size = vs.length ∧ ∀ (i : Nat) x (hi : i < cs.size), vs[i]? = some x → RepV F m pl x cs[i] := by
  cases h with | agg cs h0 h1 => exact ⟨cs, rfl, h0, h1⟩
theorem RepV.tup_inv {vs} (h : RepV F m pl (.tup vs) cv) : ∃ cs : Array Value, cv = .tuple cs ∧ cs.size = vs.length ∧ ∀ (i : Nat) x (hi : i < cs.size), vs[i]? = some x → RepV F m pl x cs[i] := by
  cases h with | tup cs h0 h1 => exact ⟨cs, rfl, h0, h1⟩
theorem RepV.fn_inv {f vs} (h : RepV F m pl (.fn f vs) cv) : ∃ cs : Array Value, cv = .func (.func f) #[] cs ∧ cs.size = vs.length ∧ ∀ (i : Nat) x (hi : i < cs.size), vs[i]? = some x → RepV F m pl x cs[i] := by
  cases h with | fn cs h0 h1 => exact ⟨cs, rfl, h0, h1⟩
theorem RepV.ip_inv {n es i off} (h : RepV F m pl (.ip n es i off) cv) : ∃ b base, ∃ cf : Nat → Nat → Value, (∀ (j : Nat) e, es[j]? = some e → e.cells.length = n) ∧
      (∀ (j : Nat) e (c : Nat) x, es[j]? = some e → e.cells[c]? = some x → scal x = true ∧ F b (base + j * n + c) ∧ m b (base + j * n + c) = some (cf j c)) ∧
      (∀ (j : Nat) e (c : Nat) x, es[j]? = some e → e.cells[c]? = some x → RepV F m noPl x (cf j c)) ∧ cv = .pointer (some ⟨b, base + i * n + off, none⟩) := by
  cases h with | ip cf h0 h1 h2 => exact ⟨_, _, cf, h0, h1, h2, rfl⟩
theorem RepV.is_inv {n es} (h : RepV F m pl (.is n es) cv) : (es = [] ∧ cv = .slice none 0 0) ∨ ∃ a cap, ∃ cf : Nat → Nat → Value, es.length ≤ cap ∧ (es ≠ [] → a.spot = none) ∧ (∀ (j : Nat) e, es[j]? = some e → e.cells.length = n) ∧
      (∀ (j : Nat) e (c : Nat) x, es[j]? = some e → e.cells[c]? = some x → scal x = true ∧ F a.block (a.off + j * n + c) ∧ m a.block (a.off + j * n + c) = some (cf j c)) ∧
      (∀ (j : Nat) e (c : Nat) x, es[j]? = some e → e.cells[c]? = some x → RepV F m noPl x (cf j c)) ∧ cv = .slice (some a) es.length cap := by
  cases h with
  | is cf h0 h00 h1 h2 h3 => exact .inr ⟨_, _, cf, h0, h00, h1, h2, h3, rfl⟩
  | isn => exact .inl ⟨rfl, rfl⟩
end inv

theorem add_none (b o n : Nat) : (⟨b, o, none⟩ : Addr).add n = ⟨b, o + n, none⟩ := by
  unfold Addr.add; split <;> simp_all

def placeV (tt : TT) (fs : List (Nat × TypeId)) (i : Nat) : Option (Nat × Nat) :=
  match fs[i]? with
  | some (off, t) => (tt t).map fun ti => (off, ti.size)
  | none => none

/-- What a load of type t gives, of an element's cells. -/
def loadV (ti : TI) (e : V) (off : Nat) : Option V := partV ti e.cells off

def lenV (tt : TT) (t : TypeId) (x : V) : Option V :=
  match tt t, x with
  | some ⟨.str, _, _, _⟩, .lit (.string s) => some (.lit (.int .i64 s.size))
  | some ⟨.slice _, _, _, _⟩, .is _ es => some (.lit (.int .i64 es.length))
  | some ⟨.slice _, _, _, _⟩, .ls _ _ _ len => some (.lit (.int .i64 len))
  | some ⟨.slice _, _, _, _⟩, .lit (.slice none 0 0) => some (.lit (.int .i64 (0 : Nat)))
  | some ⟨.slice _, _, _, _⟩, .e0 => some (.lit (.int .i64 (0 : Nat)))
  | _, _ => none

def capV (tt : TT) (t : TypeId) (x : V) : Option V :=
  match tt t, x with
  | some ⟨.slice _, _, _, _⟩, .lit (.slice none 0 0) => some (.lit (.int .i64 (0 : Nat)))
  | _, _ => none

def builtinV (tt : TT) (b : Builtin) (ts : List TypeId) (vs : List V) : Option V :=
  match b, ts, vs with
  | .len, [t], [x] => lenV tt t x
  | .cap, [t], [x] => capV tt t x
  | .min, _, [.lit (.int k x), .lit (.int _ y)] => some (.lit (.int k (if y < x then y else x)))
  | .max, _, [.lit (.int k x), .lit (.int _ y)] => some (.lit (.int k (if y > x then y else x)))
  | _, _, _ => none

def pureF (tt : TT) (op : Op) (μ : Operand → V) : Option V :=
  match op with
  | .move x => some (μ x)
  | .assign x => some (μ x)
  | .pick c a b => match μ c with
    | .lit (.bool c) => if c = true then some (μ a) else some (μ b)
    | _ => none
  | .build t parts => match tt t with
    | some ti => match ti.td with
      | .struct fs => if fs.all (fun x => (tt x.2).isSome) = true then (fillV (placeV tt fs) (ti.zero.map fun z => .lit z.val) (parts.toList.map fun p => (p.1, μ p.2))).map .agg else none
      | _ => none
    | none => none
  | .nilCheck x => match μ x with
    | .lp k n i o => some (.lp k n i o)
    | .ip n es i o => some (.ip n es i o)
    | .fn f cs => some (.fn f cs)
    | _ => none
  | .load t a => match tt t, μ a with
    | some ti, .ip _ es i off => match es[i]? with
      | some e => loadV ti e off
      | none => none
    | _, _ => none
  | .binOp op t x y _ => binV tt op t (μ x) (μ y)
  | .unOp op _ x => unV op (μ x)
  | .convert src dst x => match tt src, tt dst, μ x with
    | some ⟨.int _, _, _, _⟩, some ⟨.int k, _, _, _⟩, .lit (.int _ n) => some (.lit (.int k (k.wrap n)))
    | some ⟨.str, _, _, _⟩, some ⟨.str, _, _, _⟩, .lit (.string s) => some (.lit (.string s))
    | _, _, _ => none
  | .makeFunc (.func f) first cap => if first.size = 0 then some (.fn f (cap.toList.map μ)) else none
  | .slice t x lo hi mx => sliceV tt t (μ x) (lo.map μ) (hi.map μ) (mx.map μ)
  | .fieldAddr s x f => match tt s with
    | some ⟨.struct fs, _, _, _⟩ => match fs[f]? with
      | some (off, ft) => match tt ft with
        | some fi => if fi.size = 0 then none else match μ x with
          | .lp k n i o => some (.lp k n i (o + off))
          | .ip n es i o => some (.ip n es i (o + off))
          | _ => none
        | none => none
      | none => none
    | _ => none
  | .field s x f => match tt s with
    | some ⟨.struct fs, _, _, _⟩ => match fs[f]? with
      | some (off, ft) => match tt ft with
        | some fi => match μ x with
          | .agg cs => partV fi cs off
          | _ => none
        | none => none
      | none => none
    | _ => none
  | .indexAddr t x ix => match tt t with
    | some ⟨.slice e, _, _, _⟩ => match tt e with
      | some ei => match μ x, μ ix with
        | .is n es, .lit (.int _ i) => if ei.size = n ∧ 0 ≤ i ∧ i < es.length then some (.ip n es i.toNat 0) else none
        | .ls k n i0 len, .lit (.int _ i) => if ei.size = n ∧ 0 ≤ i ∧ i < len then some (.lp k n (i0 + i.toNat) 0) else none
        | _, _ => none
      | none => none
    | _ => none
  | .index t x ix => match tt t, μ x, μ ix with
    | some ⟨.str, _, _, _⟩, .lit (.string s), .lit (.int _ i) => match (if 0 ≤ i then s[i.toNat]? else none) with
      | some b => some (.lit (.int .u8 b.toNat))
      | none => none
    | _, _, _ => none
  | .extract x i => match μ x with
    | .tup vs => vs[i]?
    | _ => none
  | .call { callee := .builtin b, args, argTypes } => builtinV tt b argTypes.toList (args.toList.map μ)
  | _ => none

section sound
variable {P : Program} {tt : TT} {F : Cells} {w : World} {pl : Places} {ρ : Operand → Value} {μ : Operand → V}

theorem rep_part {m : Mem} {t : TypeId} {ti : TI} {i : TypeInfo} {d : TypeDesc} (hk : TOk P t ti i d) {cs : List V} {ca : Array Value} (hs : ca.size = cs.length)
    (hr : ∀ (i : Nat) x (hi : i < ca.size), cs[i]? = some x → RepV F m pl x ca[i]) {off : Nat} {v : V} (h : partV ti cs off = some v) :
    ∃ cv, (part t ca off).run P w = .ok cv w ∧ RepV F m pl v cv := by
  unfold partV at h
  simp only [part, Sem.run_bind, hk.agg w, Result.andThen]
  split at h
  · rename_i ha
    split at h
    · rename_i hle
      cases h
      refine ⟨_, by simp [ha, hk.sizeOf]; rfl, .agg _ (by simp; omega) (fun j x hj hx => ?_)⟩
      simp only [List.getElem?_take, List.getElem?_drop] at hx
      split at hx
      · have hj' : off + j < ca.size := by simp at hj; omega
        have := hr (off + j) x hj' hx
        simpa using this
      · cases hx
    · cases h
  · rename_i ha
    obtain ⟨h1, h2⟩ := List.getElem?_eq_some_iff.1 h
    have h1' : off < ca.size := by omega
    exact ⟨ca[off], by simp [ha, h1'], hr off v h1' h⟩

theorem rep_one {m : Mem} {v : V} {cv : Value} (h : RepV F m pl v cv) (hs : scal v = true) : cv.oneCell' = true ∧ cv.cells = #[cv] ∧ v.cells = [v] := by
  cases h with
  | un => simp [scal] at hs
  | agg cs h0 h1 => simp [scal] at hs
  | tup cs h0 h1 => simp [scal] at hs
  | lit => cases cv <;> simp [scal] at hs <;> exact ⟨rfl, rfl, rfl⟩
  | e0 => exact ⟨rfl, rfl, rfl⟩
  | e0n => exact ⟨rfl, rfl, rfl⟩
  | isn => exact ⟨rfl, rfl, rfl⟩
  | lp h0 h1 => exact ⟨rfl, rfl, rfl⟩
  | ls h0 h1 h2 h3 h4 => exact ⟨rfl, rfl, rfl⟩
  | ip cf h0 h1 h2 => exact ⟨rfl, rfl, rfl⟩
  | is cf h0 h00 h1 h2 h3 => exact ⟨rfl, rfl, rfl⟩
  | fn cs h0 h1 => exact ⟨rfl, rfl, rfl⟩

theorem rep_cells {m : Mem} {v : V} {cv : Value} (h : RepV F m pl v cv) (hs : v.cells.all scal = true) :
    ∃ vc : Array Value, cv.cells = vc ∧ vc.size = v.cells.length ∧ ∀ (j : Nat) y (hj : j < vc.size), v.cells[j]? = some y → RepV F m pl y vc[j] := by
  by_cases ha : ∃ cs, v = .agg cs
  · obtain ⟨cs, rfl⟩ := ha
    obtain ⟨ca, rfl, h1, h2⟩ := h.agg_inv
    exact ⟨ca, rfl, h1, h2⟩
  · have hv : v.cells = [v] := by cases v <;> first | rfl | exact absurd ⟨_, rfl⟩ ha
    rw [hv] at hs
    obtain ⟨_, h2, _⟩ := rep_one h (by simpa using hs)
    refine ⟨#[cv], h2, by rw [hv]; rfl, fun j y hj hy => ?_⟩
    simp at hj; subst hj
    rw [hv] at hy
    simp only [List.getElem?_cons_zero, Option.some.injEq] at hy; subst hy
    exact h

theorem run_fill {m : Mem} {place placeC : Nat → Option (Nat × Nat)} (hp : ∀ i x, place i = some x → placeC i = some x) : ∀ (ps : List (Nat × Operand)) {cells : List V} {ca : Array Value} {out : List V},
    ca.size = cells.length → (∀ (i : Nat) x (hi : i < ca.size), cells[i]? = some x → RepV F m pl x ca[i]) → (∀ x, RepV F m pl (μ x) (ρ x)) →
    fillV place cells (ps.map fun p => (p.1, μ p.2)) = some out →
    ∃ ca', Instr.fill placeC ca (ps.map fun p => (p.1, ρ p.2)) = some ca' ∧ ca'.size = out.length ∧ ∀ (i : Nat) x (hi : i < ca'.size), out[i]? = some x → RepV F m pl x ca'[i] := by
  intro ps
  induction ps with
  | nil => intro cells ca out hs hr _ h; simp only [List.map_nil, fillV, Option.some.injEq] at h; subst h; exact ⟨ca, rfl, hs, hr⟩
  | cons p ps ih =>
    intro cells ca out hs hr hρ h
    obtain ⟨i, x⟩ := p
    simp only [List.map_cons, fillV] at h
    split at h
    · cases h
    · rename_i off size hpi
      split at h
      · rename_i hc
        obtain ⟨hc1, hc2, hc3⟩ := hc
        -- the value's cells
        have hcells := rep_cells (hρ x) hc3
        obtain ⟨vc, hvc, hvs, hvr⟩ := hcells
        have hpc := hp i (off, size) hpi
        simp only [List.map_cons, Instr.fill, hpc, hvc]
        rw [if_neg (by simp; omega)]
        have key : ∀ (k : Nat) (cur : Array Value), k ≤ vc.size → cur.size = ca.size → 
            (vc.zipIdx.foldl (fun cs (c, j) => cs.setIfInBounds (off + j) c) ca).size = ca.size ∧ ∀ (j : Nat), (vc.zipIdx.foldl (fun cs (c, j) => cs.setIfInBounds (off + j) c) ca)[j]? = if off ≤ j ∧ j < off + vc.size then vc[j - off]? else ca[j]? := by
          intro _ _ _ _
          have gen : ∀ (l : List Value) (s : Nat) (cur : Array Value), off + s + l.length ≤ cur.size →
              ((l.zipIdx s).foldl (fun cs (c, j) => cs.setIfInBounds (off + j) c) cur).size = cur.size ∧
              ∀ (j : Nat), ((l.zipIdx s).foldl (fun cs (c, j) => cs.setIfInBounds (off + j) c) cur)[j]? = if off + s ≤ j ∧ j < off + s + l.length then l[j - (off + s)]? else cur[j]? := by
            intro l
            induction l with
            | nil => intro s cur _; exact ⟨rfl, fun j => by simp; omega⟩
            | cons y t iht =>
              intro s cur hle
              simp only [List.zipIdx_cons, List.foldl_cons]
              simp only [List.length_cons] at hle
              obtain ⟨e1, e2⟩ := iht (s + 1) (cur.setIfInBounds (off + s) y) (by simp; omega)
              refine ⟨by rw [e1]; simp, fun j => ?_⟩
              rw [e2]
              by_cases hj : j = off + s
              · subst hj
                have hlt : off + s < cur.size := by omega
                rw [if_neg (by omega), if_pos (by simp)]
                simp [hlt]
              · by_cases hr : off + (s + 1) ≤ j ∧ j < off + (s + 1) + t.length
                · rw [if_pos hr, if_pos (by simp; omega)]
                  rw [show j - (off + s) = (j - (off + (s + 1))) + 1 by omega]
                  simp
                · rw [if_neg hr, if_neg (by simp; omega), Array.getElem?_setIfInBounds_ne (by omega)]
          have := gen vc.toList 0 ca (by simp; omega)
          rw [← Array.foldl_toList, Array.toList_zipIdx]
          simpa using this
        obtain ⟨k1, k2⟩ := key 0 ca (Nat.zero_le _) rfl
        refine ih (out := out) (cells := cells.take off ++ (μ x).cells ++ cells.drop (off + size)) ?_ ?_ hρ h
        · rw [k1]; simp; omega
        · intro j y hj hy
          have hget := k2 j
          rw [Array.getElem?_eq_getElem hj] at hget
          by_cases hj1 : off ≤ j ∧ j < off + vc.size
          · rw [if_pos hj1] at hget
            rw [List.append_assoc, List.getElem?_append_right (by simp; omega), List.getElem?_append_left (by simp; omega)] at hy
            have hj2 : j - off < vc.size := by omega
            rw [Array.getElem?_eq_getElem hj2] at hget
            have e := Option.some.inj hget
            rw [e]
            refine hvr (j - off) y hj2 ?_
            rw [← hy]; congr 1; simp; omega
          · rw [if_neg hj1] at hget
            have hjc : j < ca.size := by rw [k1] at hj; exact hj
            rw [Array.getElem?_eq_getElem hjc] at hget
            have e := Option.some.inj hget
            rw [e]
            refine hr j y hjc ?_
            rw [← hy]
            by_cases hlo : j < off
            · rw [List.append_assoc, List.getElem?_append_left (by simp; omega)]
              simp [hlo]
            · rw [List.getElem?_append_right (by simp; omega)]
              simp only [List.length_append, List.length_take, List.getElem?_drop]
              congr 1; omega
      · cases h
end sound
end Go.Eng
