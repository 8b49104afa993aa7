/- A machine of values for the program's code, part 2: operations that only compute. -/
import Derived.Test.YtpfmaiiolifblaaXPoll00
namespace Go.Eng
open Go.RowKit

/-- What a zero cell is. -/
inductive Z where
  | int (k : IntKind) | bool | str | ptr | slice | nilf | nili
  deriving DecidableEq

def Z.val : Z → Value
  | .int k => .int k 0
  | .bool => .bool false
  | .str => .string .empty
  | .ptr => .pointer none
  | .slice => .slice none 0 0
  | .nilf => .nilFunc
  | .nili => .nilIface

def Z.is : Z → Value → Bool
  | .int k, .int k' n => k == k' && n == 0
  | .bool, .bool b => !b
  | .str, .string s => s.size == 0
  | .ptr, .pointer a => a.isNone
  | .slice, .slice a l c => a.isNone && l == 0 && c == 0
  | .nilf, .nilFunc => true
  | .nili, .nilIface => true
  | _, _ => false

theorem Z.is_eq {z : Z} {v : Value} (h : z.is v = true) : v = z.val := by
  cases z <;> cases v <;> simp only [Z.is, Bool.false_eq_true, Bool.and_eq_true, beq_iff_eq, Bool.not_eq_true', Option.isNone_iff_eq_none] at h
  · obtain ⟨h1, h2⟩ := h; subst h1 h2; rfl
  · subst h; rfl
  · rename_i s
    cases s; rename_i d
    cases d; rename_i l
    cases l with
    | nil => rfl
    | cons a t => simp [ByteArray.size] at h
  · subst h; rfl
  · obtain ⟨⟨h1, h2⟩, h3⟩ := h; subst h1 h2 h3; rfl
  · rfl
  · rfl

/-- A type as the machine sees it: for a struct, each field's first cell, size and whether it is an aggregate. -/
inductive TD where
  | int (k : IntKind) | bool | str | ptr | func
  | struct (fs : List (Nat × TypeId))
  | slice (e : TypeId)
  | other

structure TI where
  td : TD
  size : Nat
  bytes : Nat
  zero : List Z

abbrev TT := TypeId → Option TI

def TD.isAgg : TD → Bool
  | .struct _ => true
  | _ => false

def TD.is : TD → TypeDesc → Bool
  | .int k, .int k' => k == k'
  | .bool, .bool => true
  | .str, .string => true
  | .ptr, .pointer _ => true
  | .func, .func _ _ _ => true
  | .struct fs, .struct fields => fs == fields.toList.map (fun f => (f.offset, f.type))
  | .slice e, .slice e' => e == e'
  | .other, .interface _ => true
  | _, _ => false

def zerosIs : List Z → List Value → Bool
  | [], [] => true
  | z :: zs, v :: vs => z.is v && zerosIs zs vs
  | _, _ => false

def TI.zis (ti : TI) (z : Value) : Bool :=
  match ti.td.isAgg, z with
  | true, .agg cs => zerosIs ti.zero cs.toList
  | false, v => match ti.zero with | [z] => z.is v | _ => false
  | _, _ => false

/-- A struct whose values are compared field by field. -/
def eqPlain (P : Program) (t : TypeId) : TypeDesc → Bool
  | .struct fields => !P.stoodInHeld t && fields.toList.all (fun f => f.name != "_") && !P.eqGuardType P.depth t
  | _ => true

def tiCheck (P : Program) (t : TypeId) (ti : TI) : Bool :=
  match P.info? t, P.underlying t with
  | some i, some d => i.size == ti.size && i.bytes == ti.bytes && (match i.zero with | some z => ti.zis z | none => false) && ti.td.is d && ti.zero.length == ti.size && eqPlain P t d
  | _, _ => false

def TTok (P : Program) (tt : TT) : Prop := ∀ t ti, tt t = some ti → tiCheck P t ti = true

theorem zerosIs_eq : ∀ {zs : List Z} {vs : List Value}, zerosIs zs vs = true → vs = zs.map Z.val
  | [], [], _ => rfl
  | z :: zs, v :: vs, h => by
    simp only [zerosIs, Bool.and_eq_true] at h
    rw [Z.is_eq h.1, zerosIs_eq h.2]; rfl
  | [], _ :: _, h => by simp [zerosIs] at h
  | _ :: _, [], h => by simp [zerosIs] at h

def TI.zeroVal (ti : TI) : Value :=
  match ti.td.isAgg with
  | true => .agg (ti.zero.map Z.val).toArray
  | false => match ti.zero with | [z] => z.val | _ => undef

def TI.zeroV (ti : TI) : V :=
  match ti.td.isAgg with
  | true => .agg (ti.zero.map fun z => .lit z.val)
  | false => match ti.zero with | [z] => .lit z.val | _ => .un

structure TOk (P : Program) (t : TypeId) (ti : TI) (i : TypeInfo) (d : TypeDesc) : Prop where
  info : P.info? t = some i
  und : P.underlying t = some d
  size : i.size = ti.size
  bytes : i.bytes = ti.bytes
  zero : i.zero = some ti.zeroVal
  isd : ti.td.is d = true
  zl : ti.zero.length = ti.size
  zs : ti.td.isAgg = false → ti.size = 1
  eqp : eqPlain P t d = true

theorem TTok.get {P : Program} {tt : TT} (h : TTok P tt) {t : TypeId} {ti : TI} (ht : tt t = some ti) : ∃ i d, TOk P t ti i d := by
  have := h t ti ht
  unfold tiCheck at this
  split at this
  · rename_i i d hi hd
    simp only [Bool.and_eq_true, beq_iff_eq] at this
    obtain ⟨⟨⟨⟨⟨h1, h2⟩, h3⟩, h4⟩, h5⟩, h6⟩ := this
    split at h3
    · rename_i z hz
      refine ⟨i, d, hi, hd, h1, h2, ?_, h4, h5, ?_, h6⟩
      · rw [hz]; congr 1
        unfold TI.zis at h3; unfold TI.zeroVal
        split at h3
        · rename_i cs ha
          simp only [ha]
          have := zerosIs_eq h3
          rw [← this]
        · rename_i ha
          simp only [ha]
          split at h3
          · rename_i z' hz'
            exact Z.is_eq h3
          · cases h3
        · cases h3
      · intro ha
        unfold TI.zis at h3
        simp only [ha] at h3
        split at h3
        · rename_i hz'; rw [hz'] at h5; simpa using h5.symm
        · cases h3
    · cases h3
  · cases this

section runs
variable {P : Program} (w : World)
theorem TOk.agg {t ti i d} (h : TOk P t ti i d) : (isAgg t).run P w = .ok ti.td.isAgg w := by
  have := h.isd
  simp only [isAgg, Sem.run_bind, run_underlying h.und, Result.andThen]
  cases htd : ti.td <;> cases d <;> simp only [htd, TD.is, Bool.false_eq_true] at this <;> rfl
theorem TOk.sizeOf {t ti i d} (h : TOk P t ti i d) : (sizeOf t).run P w = .ok ti.size w := by
  simp [Go.sizeOf, typeInfo, h.info, h.size]
theorem TOk.zeroValue {t ti i d} (h : TOk P t ti i d) : (zeroValue t).run P w = .ok ti.zeroVal w := by
  simp [Go.zeroValue, typeInfo, h.info, h.zero]
end runs

theorem TI.zero_rep {F : Cells} {m : Mem} {pl : Places} (ti : TI) : RepV F m pl ti.zeroV ti.zeroVal := by
  unfold TI.zeroV TI.zeroVal
  split
  · refine .agg _ (by simp) (fun i x h hx => ?_)
    have := repL (F := F) (m := m) (pl := pl) (ti.zero.map Z.val) i x (by simpa using h) (by simpa [List.map_map] using hx)
    simpa using this
  · split <;> first | exact .lit | exact .un

/-- Part of an aggregate: the cells from `off` on. -/
def partV (ti : TI) (cs : List V) (off : Nat) : Option V :=
  match ti.td.isAgg with
  | true => if off + ti.size ≤ cs.length then some (.agg ((cs.drop off).take ti.size)) else none
  | false => cs[off]?

def fillV (place : Nat → Option (Nat × Nat)) (cells : List V) : List (Nat × V) → Option (List V)
  | [] => some cells
  | (i, v) :: rest =>
    match place i with
    | none => none
    | some (off, size) =>
      if v.cells.length = size ∧ off + size ≤ cells.length ∧ v.cells.all scal = true then fillV place (cells.take off ++ v.cells ++ cells.drop (off + size)) rest else none

def bitV (k : IntKind) (f : BitVec k.bits → BitVec k.bits → BitVec k.bits) (x y : Int) : V :=
  .lit (.int k (k.wrap (f (BitVec.ofInt k.bits x) (BitVec.ofInt k.bits y)).toNat))

def intBinV (op : BinOp) (k : IntKind) (x y : Int) : Option V :=
  match op with
  | .add => some (.lit (.int k (k.wrap (x + y))))
  | .sub => some (.lit (.int k (k.wrap (x - y))))
  | .mul => some (.lit (.int k (k.wrap (x * y))))
  | .quo => if y = 0 then none else some (.lit (.int k (k.wrap (x.tdiv y))))
  | .rem => if y = 0 then none else some (.lit (.int k (x.tmod y)))
  | .and => some (bitV k (· &&& ·) x y)
  | .or => some (bitV k (· ||| ·) x y)
  | .xor => some (bitV k (· ^^^ ·) x y)
  | .andNot => some (bitV k (fun a b => a &&& ~~~b) x y)
  | .eql => some (.lit (.bool (x == y)))
  | .neq => some (.lit (.bool (x != y)))
  | .lss => some (.lit (.bool (x < y)))
  | .leq => some (.lit (.bool (x ≤ y)))
  | .gtr => some (.lit (.bool (x > y)))
  | .geq => some (.lit (.bool (x ≥ y)))
  | _ => none

def shiftV (op : BinOp) (k : IntKind) (x y : Int) : Option V :=
  match op with
  | .shl => if 0 ≤ y then some (.lit (.int k (k.wrap (x * 2 ^ min y.toNat k.bits)))) else none
  | .shr => if 0 ≤ y then some (.lit (.int k (x.fdiv (2 ^ min y.toNat k.bits)))) else none
  | _ => none

def strBinV (op : BinOp) (x y : ByteArray) : Option V :=
  match op with
  | .add => if ((x.size + y.size : Nat) : Int) > IntKind.i64.max then none else some (.lit (.string (x ++ y)))
  | .eql => some (.lit (.bool (x.toList == y.toList)))
  | .neq => some (.lit (.bool !(x.toList == y.toList)))
  | _ => none

def isShift : BinOp → Bool
  | .shl | .shr => true
  | _ => false

def nilV : V := .lit (.slice none 0 0)

/-- Whether two rows of fields are the same. -/
def eqFs (E : TypeId → V → V → Option Bool) (tt : TT) (xs ys : List V) : List (Nat × TypeId) → Option Bool
  | [] => some true
  | (o, t) :: fs => match tt t with
    | some ti => match partV ti xs o, partV ti ys o with
      | some a, some b => match E t a b, eqFs E tt xs ys fs with
        | some p, some q => some (p && q)
        | _, _ => none
      | _, _ => none
    | none => none
/-- Whether two values of a type are the same: numbers, and structs of such. -/
def eqV (tt : TT) : Nat → TypeId → V → V → Option Bool
  | 0, _, _, _ => none
  | d + 1, t, x, y => match tt t, x, y with
    | some ⟨.int _, _, _, _⟩, .lit (.int k a), .lit (.int k' b) => if k = k' then some (a == b) else none
    | some ⟨.struct fs, _, _, _⟩, .agg xs, .agg ys => eqFs (eqV tt d) tt xs ys fs
    | _, _, _ => none

def binV (tt : TT) (op : BinOp) (t : TypeId) (a b : V) : Option V :=
  match a, b with
  | .lit (.int k x), .lit (.int k' y) => if isShift op then shiftV op k x y else if k = k' then intBinV op k x y else none
  | .lit (.string x), .lit (.string y) => strBinV op x y
  | .lit (.bool x), .lit (.bool y) =>
    match tt t with
    | some ⟨.bool, _, _, _⟩ => match op with | .eql => some (.lit (.bool (x == y))) | .neq => some (.lit (.bool !(x == y))) | _ => none
    | _ => none
  | .lit (.slice none 0 0), .lit (.slice none 0 0) =>
    match tt t with
    | some ⟨.slice _, _, _, _⟩ => match op with | .eql => some (.lit (.bool true)) | .neq => some (.lit (.bool false)) | _ => none
    | _ => none
  | .lit (.slice (some _) _ _), .lit (.slice none 0 0) =>
    match tt t with
    | some ⟨.slice _, _, _, _⟩ => match op with | .eql => some (.lit (.bool false)) | .neq => some (.lit (.bool true)) | _ => none
    | _ => none
  | .ls _ _ _ _, .lit (.slice none 0 0) =>
    match tt t with
    | some ⟨.slice _, _, _, _⟩ => match op with | .eql => some (.lit (.bool false)) | .neq => some (.lit (.bool true)) | _ => none
    | _ => none
  | .is _ (_ :: _), .lit (.slice none 0 0) =>
    match tt t with
    | some ⟨.slice _, _, _, _⟩ => match op with | .eql => some (.lit (.bool false)) | .neq => some (.lit (.bool true)) | _ => none
    | _ => none
  | .agg xs, .agg ys => match op with
    | .eql => (eqV tt 8 t (.agg xs) (.agg ys)).map fun b => .lit (.bool b)
    | .neq => (eqV tt 8 t (.agg xs) (.agg ys)).map fun b => .lit (.bool (!b))
    | _ => none
  | _, _ => none

def unV (op : UnOp) (a : V) : Option V :=
  match op, a with
  | .neg, .lit (.int k n) => some (.lit (.int k (k.wrap (0 - n))))
  | .xor, .lit (.int k n) => some (bitV k (· ^^^ ·) (if k.signed then -1 else k.max) n)
  | .not, .lit (.bool b) => some (.lit (.bool !b))
  | _, _ => none

/-- The bounds of a cut, of what has length `len` and room `cap` (none: not known). -/
def boundsV (len : Nat) (lo hi mx : Option V) : Option (Nat × Nat) :=
  match mx with
  | some _ => none
  | none =>
    match hi with
    | some (.lit (.int _ h)) => if 0 ≤ h ∧ h ≤ len then
        match lo with
        | some (.lit (.int _ l)) => if 0 ≤ l ∧ l ≤ h then some (l.toNat, h.toNat) else none
        | none => some (0, h.toNat)
        | _ => none
      else none
    | none =>
        match lo with
        | some (.lit (.int _ l)) => if 0 ≤ l ∧ l ≤ len then some (l.toNat, len) else none
        | none => some (0, len)
        | _ => none
    | _ => none

def isZero : Option V → Bool
  | some (.lit (.int _ 0)) => true
  | _ => false

def isAbsent : Option V → Bool
  | none => true
  | _ => false

def sliceV (tt : TT) (t : TypeId) (x : V) (lo hi mx : Option V) : Option V :=
  match tt t, x with
  | some ⟨.str, _, _, _⟩, .lit (.string s) => (boundsV s.size lo hi mx).map fun b => .lit (.string (s.extract b.1 b.2))
  | some ⟨.slice e, _, _, _⟩, .is n es => match tt e with
    | some ti => if isAbsent lo && isZero mx && isZero hi then some .e0 else if ti.size = n then (boundsV es.length lo hi mx).map fun b => .is n ((es.drop b.1).take (b.2 - b.1)) else none
    | none => none
  | some ⟨.slice e, _, _, _⟩, .ls k n i len => match tt e with
    | some ti => if isAbsent lo && isZero mx && isZero hi then some .e0 else if ti.size = n then (boundsV len lo hi mx).map fun b => .ls k n (i + b.1) (b.2 - b.1) else none
    | none => none
  | some ⟨.slice e, _, _, _⟩, .lit (.slice none 0 0) => match tt e with
    | some _ => (boundsV 0 lo hi mx).map fun _ => nilV
    | none => none
  | _, _ => none
end Go.Eng
