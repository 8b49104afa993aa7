/- A machine of values for the program's code, part 12: any operation but a call. -/
import Derived.Laws.BytesArg
import Derived.Test.YtpfmaiiolifblaaXPoll10
namespace Go.Eng
open Go.RowKit

def srcKind (tt : TT) (t : TypeId) : Option Bool :=
  match tt t with
  | some ⟨.slice _, _, _, _⟩ => some false
  | some ⟨.str, _, _, _⟩ => some true
  | _ => none

def appendF (tt : TT) (nk : Key) (get : Store) (t tx : TypeId) (s x : V) : Option (V × List (Key × Obj)) :=
  match tt t with
  | some ⟨.slice e, _, _, _⟩ => match tt e, srcKind tt tx with
    | some ei, some stb => match srcV get ei.size stb x with
      | some xs => appendV ei nk get xs s x
      | none => none
    | _, _ => none
  | _ => none

def copyG (tt : TT) (get : Store) (t tx : TypeId) (s x : V) : Option (V × List (Key × Obj)) :=
  match tt t with
  | some ⟨.slice e, _, _, _⟩ => match tt e, srcKind tt tx with
    | some ei, some false => if ei.size = 0 then none else match srcV get ei.size false x with
      | some xs => copyF ei get xs s
      | none => none
    | _, _ => none
  | _ => none

def clearG (tt : TT) (get : Store) (t : TypeId) (s : V) : Option (V × List (Key × Obj)) :=
  match tt t with
  | some ⟨.slice e, _, _, _⟩ => match tt e with
    | some ei => (clearF ei get s).map fun u => (.tup [], u)
    | none => none
  | _ => none

def isLp : V → Bool
  | .lp .. => true
  | _ => false

/-- Zeros that are appended to nothing: 'append(nil, make([]T, n)...)'. -/
def isIntT (tt : TT) (t : TypeId) : Bool :=
  match tt t with
  | some ⟨.int _, _, _, _⟩ => true
  | _ => false
def appMakeF (tt : TT) (nk : Key) (get : Store) (t : TypeId) (s x : V) : Option (V × List (Key × Obj)) :=
  match tt t, x with
  | some ⟨.slice e, _, _, _⟩, .lit (.int _ n) => match tt e with
    | some ei => if 0 ≤ n ∧ roomOk n.toNat ei.bytes then appendV ei nk get (List.replicate n.toNat ei.zeroV) s .un else none
    | none => none
  | _, _ => none

/-- A conversion of bytes to a string. -/
def bytesStr (tt : TT) (src dst : TypeId) : Bool :=
  match tt src, tt dst with
  | some ⟨.slice e, _, _, _⟩, some ⟨.str, _, _, _⟩ => match tt e with
    | some ⟨.int .u8, _, _, _⟩ => true
    | _ => false
  | _, _ => false
def encU (n : Int) : V := .lit (.int .u8 n)
def numsOf : List V → Option (List Int)
  | [] => some []
  | .lit (.int .u8 n) :: r => (numsOf r).map (n :: ·)
  | _ => none
theorem numsOf_some : ∀ {es : List V} {ns : List Int}, numsOf es = some ns → es = ns.map encU
  | [], _, h => by cases h; rfl
  | x :: r, ns, h => by
    unfold numsOf at h
    split at h
    · rename_i h1; cases h1
    · rename_i n r' h1
      cases h1
      obtain ⟨ms, h2, rfl⟩ := Option.map_eq_some_iff.1 h
      rw [numsOf_some h2]; rfl
    · cases h
theorem numsOf_map : ∀ {ns : List Int}, numsOf (ns.map encU) = some ns
  | [] => rfl
  | n :: ns => by
    show (numsOf (ns.map encU)).map (n :: ·) = _
    rw [numsOf_map]; rfl
def bytesF (get : Store) (x : V) : Option (V × List (Key × Obj)) :=
  match srcV get 1 false x with
  | some es => (numsOf es).map fun ns => (.lit (.string (strOfNums ns)), [])
  | none => none

/-- What an operation that is no call comes to: its value, and what becomes of the objects. -/
def opF (tt : TT) (nk : Key) (op : Op) (μ : Operand → V) (get : Store) : Option (V × List (Key × Obj)) :=
  match op with
  | .alloc elem => match tt elem with
    | some ti => makeV tt nk get elem ti.zeroV
    | none => none
  | .box elem x => makeV tt nk get elem (μ x)
  | .buildSlice t len parts => buildSliceF tt nk get t len (parts.toList.map fun p => (p.1, μ p.2))
  | .makeSlice t l c => makeSliceF tt nk get t (μ l) (μ c)
  | .load t a => if isLp (μ a) = true then (loadF tt get t (μ a)).map fun v => (v, []) else (pureF tt (.load t a) μ).map fun v => (v, [])
  | .store t a x => (storeF tt get t (μ a) (μ x)).map fun u => (.un, u)
  | .convert src dst x => if bytesStr tt src dst = true then bytesF get (μ x) else (pureF tt (.convert src dst x) μ).map fun v => (v, [])
  | .call { callee := .builtin .append, args, argTypes } => match argTypes.toList, args.toList with
    | [t, tx], [s, x] => if isIntT tt tx = true then appMakeF tt nk get t (μ s) (μ x) else appendF tt nk get t tx (μ s) (μ x)
    | _, _ => none
  | .call { callee := .builtin .copy, args, argTypes } => match argTypes.toList, args.toList with
    | [t, tx], [s, x] => copyG tt get t tx (μ s) (μ x)
    | _, _ => none
  | .call { callee := .builtin .clear, args, argTypes } => match argTypes.toList, args.toList with
    | [t], [s] => clearG tt get t (μ s)
    | _, _ => none
  | op => (pureF tt op μ).map fun v => (v, [])

def InvE (c : Ctx) (st : St) (a : Act) (w : World) : Prop := ∃ F pl, Inv c F pl st a w

section
variable {P : Program} {tt : TT} {c : Ctx} {F : Cells} {pl : Places} {st : St} {a : Act} {w : World}

theorem ments_ex {k : Key} : ∀ {vs : List V}, k ∈ mentsL vs → ∃ (i : Nat) (v : V), vs[i]? = some v ∧ k ∈ v.ments
  | [], h => by simp [mentsL] at h
  | v :: vs, h => by
    simp only [mentsL, List.mem_append] at h
    rcases h with h | h
    · exact ⟨0, v, rfl, h⟩
    · obtain ⟨i, x, h1, h2⟩ := ments_ex h
      exact ⟨i + 1, x, by simpa using h1, h2⟩

theorem RepV.ments_some {m : Mem} {v : V} {cv : Value} (h : RepV F m pl v cv) : ∀ k, k ∈ v.ments → pl k ≠ none := by
  have many : ∀ {pl : Places} {vs : List V} {cs : Array Value}, cs.size = vs.length → (∀ (i : Nat) x (h : i < cs.size), vs[i]? = some x → ∀ k, k ∈ x.ments → pl k ≠ none) → ∀ k, k ∈ mentsL vs → pl k ≠ none := by
    intro pl vs cs hs hi k hk
    obtain ⟨i, x, h1, h2⟩ := ments_ex hk
    exact hi i x (by rw [hs]; exact (List.getElem?_eq_some_iff.1 h1).1) h1 k h2
  induction h with
  | un => intro k hk; simp [V.ments] at hk
  | lit => intro k hk; simp [V.ments] at hk
  | e0 => intro k hk; simp [V.ments] at hk
  | e0n => intro k hk; simp [V.ments] at hk
  | isn => intro k hk; simp [V.ments] at hk
  | lp hp _ => intro k hk; simp [V.ments] at hk; subst hk; rw [hp]; simp
  | ls hp _ _ _ _ => intro k hk; simp [V.ments] at hk; subst hk; rw [hp]; simp
  | ip _ _ _ _ _ => intro k hk; simp [V.ments] at hk
  | is _ _ _ _ _ _ => intro k hk; simp [V.ments] at hk
  | fn cs h1 _ ih => exact many h1 ih
  | agg cs h1 _ ih => exact many h1 ih
  | tup cs h1 _ ih => exact many h1 ih

theorem kind_of (htt : TTok P tt) {tx : TypeId} {b : Bool} (h : srcKind tt tx = some b) : (b = false ∧ ∃ e', P.underlying tx = some (.slice e')) ∨ (b = true ∧ P.underlying tx = some .string) := by
  unfold srcKind at h
  split at h
  · rename_i ht; cases h
    obtain ⟨i, d, hk⟩ := htt.get ht
    exact .inl ⟨rfl, _, hk.slice⟩
  · rename_i ht; cases h
    obtain ⟨i, d, hk⟩ := htt.get ht
    exact .inr ⟨rfl, hk.str⟩
  · cases h

theorem arr_one {α : Type} {xs : Array α} {x : α} (h : xs.toList = [x]) : xs = #[x] := by rw [← Array.toArray_toList (xs := xs), h]
theorem arr_two {α : Type} {xs : Array α} {x y : α} (h : xs.toList = [x, y]) : xs = #[x, y] := by rw [← Array.toArray_toList (xs := xs), h]

theorem ASrc.zeros {t tx ty e : TypeId} {i : TypeInfo} {z : Value} {k' : IntKind} (ht : P.underlying t = some (.slice e)) (hx : P.underlying tx = some (.int k')) (hi : P.info? e = some i) (hz : i.zero = some z) (k : IntKind) {n : Nat} (hzs : z.cells.size = i.size) (hs0 : 0 < i.size)
    (h63 : n ≤ 140737488351232) (hb : n * i.bytes ≤ 140737488355328) (hone : ∀ u ∈ (madeCells z.cells (n * z.cells.size)).toList, u.oneCell' = true) :
    ASrc P t tx ty e i z i.size (.int k n) n (madeCells z.cells (n * z.cells.size)).toList w := by
  have e1 : IntKind.i64.wrap (n : Int) = n := by
    simp only [IntKind.wrap, IntKind.signed, IntKind.bits]
    simp
    omega
  have h48' : ¬ (281474976710656 < (n : Int) * (i.bytes : Int)) := by
    have : ((n * i.bytes : Nat) : Int) = (n : Int) * (i.bytes : Int) := by push_cast; rfl
    omega
  have hneg : ¬ ((n : Int) < 0) := by omega
  have e0 : IntKind.i64.wrap 0 = 0 := by rfl
  refine ⟨by simp [size_madeCells, hzs], fun h0 _ base sLen sCap hle => ?_, fun b off sLen sCap hroom hc hf => ?_, fun base sLen sCap olds hold hg h64 hfit => ?_⟩
  · subst h0
    cases base <;> simp [Builtin.append_, run_underlying ht, run_underlying hx, sizeOf, typeInfo, zeroValue, hi, hz, asInt, asIntOf, IntKind.wrap, IntKind.signed, IntKind.bits, hle, storeCells]
  · have hst := run_storeCells_cells (P := P) b (off + sLen * i.size) (madeCells z.cells (n * z.cells.size)).toList 0 w (by simpa using hc) (by simpa using hf) hone
    simp only [Nat.add_zero] at hst
    by_cases hn0 : n = 0
    · subst hn0
      simp [madeCells] at hst
      have hroom' : sLen ≤ sCap := by omega
      simp [Builtin.append_, run_underlying ht, run_underlying hx, sizeOf, typeInfo, zeroValue, hi, hz, asInt, asIntOf, e0, hroom', Addr.add_lit, hst, madeCells]
    · have hs1 : ¬ n * i.size = 0 := Nat.mul_ne_zero (by omega) (by omega)
      have e2 : Builtin.zeroCells z.cells n = madeCells z.cells (n * z.cells.size) := rfl
      simp [Builtin.append_, run_underlying ht, run_underlying hx, sizeOf, typeInfo, zeroValue, hi, hz, asInt, asIntOf, e1, hneg, h48', hroom, Addr.add_lit, hs1, e2, hst]
  · have hn : ¬ (sLen + n ≤ sCap) := by omega
    have h63' : ¬ (9223372036854775807 < ((sLen : Int) + (n : Int))) := by omega
    have h48 : ¬ (281474976710656 < Builtin.nextslicecap (sLen + n) sCap * i.bytes) := by omega
    have e2 : Builtin.zeroCells z.cells n = madeCells z.cells (n * z.cells.size) := rfl
    by_cases hn0 : n = 0
    · subst hn0
      have hn' : ¬ sLen ≤ sCap := by omega
      have h63'' : ¬ (9223372036854775807 < (sLen : Int)) := by omega
      have h48'' : ¬ (281474976710656 < Builtin.nextslicecap sLen sCap * i.bytes) := by simpa using h48
      simp [Builtin.append_, run_underlying ht, run_underlying hx, sizeOf, typeInfo, zeroValue, hi, hz, asInt, asIntOf, e0, h48'', hn', h63'', Question.forced, hold, newRow, grownCap, madeCells]
    · have hs1 : ¬ n * i.size = 0 := Nat.mul_ne_zero (by omega) (by omega)
      simp [Builtin.append_, run_underlying ht, run_underlying hx, sizeOf, typeInfo, zeroValue, hi, hz, asInt, asIntOf, e1, hneg, h48, h48', hn, h63', hs1, Question.forced, hold, newRow, grownCap, e2]
      congr 2
      apply Array.ext'
      simp [List.append_assoc]

theorem appMake_sound (htt : TTok P tt) (h : Inv c F pl st a w) {nk : Key} (hk0 : nk.1 ≠ 0) {t tx ty : TypeId} (hi : isIntT tt tx = true) {s x : V} {cs cx : Value} (hs : RepV F (memOf w) pl s cs) (hx : RepV F (memOf w) pl x cx) {v : V} {ups : List (Key × Obj)}
    (hm : appMakeF tt nk st.ob t s x = some (v, ups)) :
    ∃ F' pl' w' cv, (Builtin.append_ #[t, tx] ty #[cs, cx]).run P w = .ok cv w' ∧ Inv c F' pl' { st with ob := st.ob.sets ups } a w' ∧ RepV F' (memOf w') pl' v cv := by
  unfold isIntT at hi
  split at hi <;> try contradiction
  rename_i htx
  obtain ⟨_, _, k1⟩ := htt.get htx
  unfold appMakeF at hm
  split at hm <;> try contradiction
  rename_i e _ _ _ kx n ht
  obtain ⟨_, _, k2⟩ := htt.get ht
  split at hm <;> try contradiction
  rename_i ei hei
  obtain ⟨i, d, k3⟩ := htt.get hei
  split at hm <;> try contradiction
  rename_i hc
  obtain ⟨hn, hr1, hr2⟩ := hc
  have hn0 : 0 < ei.size := by
    unfold appendV at hm
    split at hm
    · cases hm
    · omega
  cases hx.lit_inv
  obtain ⟨m, rfl⟩ : ∃ m : Nat, n = m := ⟨n.toNat, by omega⟩
  rw [Int.toNat_natCast] at hr1 hr2 hm
  obtain ⟨z1, z2, z3, z4, z5⟩ := zeroV_cells k3
  have cells : ∀ (j : Nat) x (c : Nat) y, (List.replicate m ei.zeroV)[j]? = some x → x.cells[c]? = some y → scal y = true ∧ ∃ cv, (madeCells ei.zeroVal.cells (m * ei.zeroVal.cells.size)).toList[j * ei.size + c]? = some cv ∧ RepV F (memOf w) noPl y cv := by
    intro j x c y hx hy
    have hj := (List.getElem?_eq_some_iff.1 hx).1
    simp only [List.length_replicate] at hj
    rw [List.getElem?_replicate, if_pos hj] at hx
    rw [← Option.some.inj hx] at hy
    have := made_rep (m := memOf w) (pq := noPl) (F := F) k3 (N := m * ei.zeroVal.cells.size) (j := j) (c := c) (y := y) (by
      rw [z4]
      have := Nat.mul_le_mul_right ei.size (show j + 1 ≤ m by omega)
      rw [Nat.add_mul] at this; omega) hy
    rw [Array.getElem?_toList]
    exact this
  have hone : ∀ u ∈ (madeCells ei.zeroVal.cells (m * ei.zeroVal.cells.size)).toList, u.oneCell' = true := by
    intro v hv
    rw [z4] at hv
    obtain ⟨q, hq, e⟩ := List.getElem_of_mem hv
    simp only [Array.length_toList, size_madeCells] at hq
    obtain ⟨j, cc, hj, hcc, rfl⟩ := divMod hn0 hq
    have hy := List.getElem?_eq_getElem (l := ei.zeroV.cells) (i := cc) (by omega)
    obtain ⟨t1, cv, t2, t3⟩ := made_rep (pq := noPl) (F := F) (m := memOf w) k3 (N := m * ei.size) (j := j) (by
        have := Nat.mul_le_mul_right ei.size (show j + 1 ≤ m by omega)
        rw [Nat.add_mul] at this; omega) hy
    obtain ⟨s1, s2⟩ := Array.getElem?_eq_some_iff.1 t2
    have : v = cv := by rw [← e, ← s2]; simp
    rw [this]; exact (rep_one t3 t1).1
  have hsrc := ASrc.zeros (w := w) (ty := ty) k2.slice k1.int k3.info k3.zero kx (n := m) (by rw [z4, k3.size]) (by rw [k3.size]; exact hn0) hr2 (by rw [k3.bytes]; exact hr1) hone
  refine append_core h hk0 k3 hs (xs := List.replicate m ei.zeroV) (news := (madeCells ei.zeroVal.cells (m * ei.zeroVal.cells.size)).toList) (by rw [List.length_replicate]; rw [k3.size] at hsrc; exact hsrc) (fun j y hy => ?_) cells hm
  have hj := (List.getElem?_eq_some_iff.1 hy).1
  simp only [List.length_replicate] at hj
  rw [List.getElem?_replicate, if_pos hj] at hy
  rw [← Option.some.inj hy]; exact z1

theorem src_shape {ob : Store} {n : Nat} {x : V} {m : Mem} {cx : Value} (hx : RepV F m pl x cx) {es : List V} (hs : srcV ob n false x = some es) :
    (∃ a cap, cx = .slice (some a) es.length cap) ∨ (∃ l c, cx = .slice none l c ∧ es = []) := by
  unfold srcV at hs
  split at hs
  · cases hx.lit_inv; cases hs; exact .inr ⟨_, _, rfl, rfl⟩
  · cases hx.lit_inv; cases hs; exact .inl ⟨_, _, rfl⟩
  · obtain ⟨a, rfl⟩ := hx.e0_inv
    cases hs
    cases a with
    | none => exact .inr ⟨_, _, rfl, rfl⟩
    | some a => exact .inl ⟨_, _, rfl⟩
  · split at hs <;> try contradiction
    cases hs
    obtain ⟨rfl, rfl⟩ | ⟨a, cap, cf, hcap, hsp, h1, h2, h3, rfl⟩ := hx.is_inv
    · exact .inr ⟨_, _, rfl, rfl⟩
    · exact .inl ⟨_, _, rfl⟩
  · obtain ⟨p, a, cap, hp, hpn, hlc, hic, ha, rfl⟩ := hx.ls_inv
    split at hs <;> try contradiction
    all_goals
      split at hs <;> try contradiction
      rename_i hb
      cases hs
      refine .inl ⟨a, cap, ?_⟩
      rw [List.length_take, List.length_drop]
      congr 1
      omega
  · rename_i h1; cases h1
  · cases hs

theorem bytes_sound (htt : TTok P tt) (h : WR F pl st.ob w) {src dst : TypeId} (hb : bytesStr tt src dst = true) {x : V} {cx : Value} (hx : RepV F (memOf w) pl x cx) {v : V} {ups : List (Key × Obj)} (hf : bytesF st.ob x = some (v, ups)) :
    ∃ s, v = .lit (.string s) ∧ ups = [] ∧ (convert src dst cx).run P w = .ok (.string s) w := by
  unfold bytesStr at hb
  split at hb <;> try contradiction
  rename_i e _ _ _ _ _ _ hsrc hdst
  split at hb <;> try contradiction
  rename_i he
  obtain ⟨_, _, k1⟩ := htt.get hsrc
  obtain ⟨_, _, k2⟩ := htt.get hdst
  obtain ⟨_, _, k3⟩ := htt.get he
  unfold bytesF at hf
  split at hf <;> try contradiction
  rename_i es hes
  obtain ⟨ns, hns, e2⟩ := Option.map_eq_some_iff.1 hf
  cases e2
  refine ⟨_, rfl, rfl, ?_⟩
  obtain ⟨news, hsrc', _, hc, hq⟩ := src_sound (P := P) h (n := 1) (by omega) (tx := src) (stb := false) (.inl ⟨rfl, _, k1.slice⟩) hx hes
  have hnl := hsrc'.newsLen
  have en := numsOf_some hns
  have hl : es.length = ns.length := by rw [en, List.length_map]
  have hnews : news = ns.map (Value.int .u8) := by
    refine List.ext_getElem (by rw [hnl, hl, List.length_map]; omega) fun j h1 h2 => ?_
    have hj : j < ns.length := by simpa using h2
    have e1 : es[j]? = some (encU ns[j]) := by rw [en, List.getElem?_map, List.getElem?_eq_getElem hj]; rfl
    obtain ⟨_, cv, g1, g2⟩ := hc j _ 0 (encU ns[j]) e1 rfl
    cases g2.lit_inv
    rw [Nat.mul_one, Nat.add_zero, List.getElem?_eq_getElem h1] at g1
    rw [List.getElem_map]
    exact Option.some.inj g1
  rcases src_shape hx hes with ⟨a, cap, rfl⟩ | ⟨l, c, rfl, rfl⟩
  · have h1 := hq rfl es.length (Nat.le_refl _)
    simp only [Builtin.firstCells] at h1
    rw [Nat.mul_one, List.take_of_length_le (by rw [hnl]; omega), hnews] at h1
    rw [run_convert_bytes_string w src dst e _ es.length cap k1.slice k3.int k2.str, run_bytesToString w _ es.length cap ns h1, foldl_push_bytes]
    simp [strOfNums, ByteArray.empty, ByteArray.emptyWithCapacity]
    rfl
  · have : ns = [] := by cases ns with | nil => rfl | cons a l => simp at hl
    subst this
    rw [run_convert_bytes_nil w src e k1.slice k3.int l c dst k2.str]
    rfl

theorem op_run (htt : TTok P tt) (h : Inv c F pl st a w) {nk : Key} (hk0 : nk.1 ≠ 0) (o : Oper) {v : V} {ups : List (Key × Obj)} (hf : opF tt nk o.op (ev st.tm) st.ob = some (v, ups)) :
    ∃ F' pl' w' r cv, (execOp a.eval o).run P w = .ok r w' ∧ (r = .value cv ∨ (r = .skip ∧ cv = undef)) ∧ Inv c F' pl' { st with ob := st.ob.sets ups } a w' ∧ RepV F' (memOf w') pl' v cv := by
  have hρ := ev_rep h
  have pure_case : ∀ {v}, pureF tt o.op (ev st.tm) = some v → ∃ F' pl' w' r cv, (execOp a.eval o).run P w = .ok r w' ∧ (r = .value cv ∨ (r = .skip ∧ cv = undef)) ∧ Inv c F' pl' { st with ob := st.ob.sets [] } a w' ∧ RepV F' (memOf w') pl' v cv := by
    intro v hv
    obtain ⟨cv, h1, h2⟩ := pureF_sound htt hρ o hv
    exact ⟨F, pl, w, _, cv, h1, .inl rfl, h, h2⟩
  have other : ∀ {x}, (pureF tt o.op (ev st.tm)).map (fun v => (v, ([] : List (Key × Obj)))) = some x → x = (v, ups) → ∃ F' pl' w' r cv, (execOp a.eval o).run P w = .ok r w' ∧ (r = .value cv ∨ (r = .skip ∧ cv = undef)) ∧ Inv c F' pl' { st with ob := st.ob.sets ups } a w' ∧ RepV F' (memOf w') pl' v cv := by
    intro x hx e
    subst e
    obtain ⟨v', hv, e⟩ := Option.map_eq_some_iff.1 hx
    simp only [Prod.mk.injEq] at e
    obtain ⟨rfl, rfl⟩ := e
    exact pure_case hv
  obtain ⟨dst, op, ty, pos, after, guard⟩ := o
  simp only at hf other pure_case
  cases op
  case alloc elem =>
    simp only [opF] at hf
    split at hf <;> try contradiction
    rename_i ti hti
    obtain ⟨i, d, hk⟩ := htt.get hti
    obtain ⟨pl', w', cv, h1, h2, h3⟩ := make_sound (P := P) h hk0 (elem := elem) (cx := ti.zeroVal) ti.zero_rep hf
    refine ⟨F, pl', w', _, cv, ?_, .inl rfl, h2, h3⟩
    simp only [Instr.box, Sem.run_bind] at h1
    simp only [execOp, Instr.alloc, Sem.run_bind, hk.zeroValue, Result.andThen]
    generalize hr : (newVar elem ti.zeroVal).run P w = r at h1
    cases r with
    | halt x w1 => simp [Result.andThen] at h1
    | ok x w1 => simp [Result.andThen] at h1 ⊢; exact ⟨h1.1, h1.2⟩
  case box elem x =>
    simp only [opF] at hf
    obtain ⟨pl', w', cv, h1, h2, h3⟩ := make_sound (P := P) h hk0 (hρ x) hf
    exact ⟨F, pl', w', _, cv, by simp [execOp, h1], .inl rfl, h2, h3⟩
  case buildSlice t len parts =>
    simp only [opF] at hf
    have hnk : st.ob nk = none := by
      unfold buildSliceF at hf
      split at hf <;> try contradiction
      split at hf <;> try contradiction
      split at hf <;> try contradiction
      rename_i hc; exact hc.2.2
    obtain ⟨F', pl', w', cv, h1, h2, h3⟩ := buildSlice_sound (P := P) htt h hk0 hρ (fun p _ hm => (hρ p.2).ments_some nk hm (h.wr.non nk hnk)) hf
    exact ⟨F', pl', w', _, cv, by simp [execOp, h1], .inl rfl, h2, h3⟩
  case makeSlice t l r =>
    simp only [opF] at hf
    obtain ⟨pl', w', cv, h1, h2, h3⟩ := makeSlice_sound (P := P) htt h hk0 (hρ l) (hρ r) hf
    exact ⟨F, pl', w', _, cv, by simp [execOp, h1], .inl rfl, h2, h3⟩
  case load t x =>
    simp only [opF] at hf
    split at hf
    · obtain ⟨v', hv, e⟩ := Option.map_eq_some_iff.1 hf
      simp only [Prod.mk.injEq] at e
      obtain ⟨rfl, rfl⟩ := e
      obtain ⟨cv, h1, h2⟩ := load_sound (P := P) htt h (hρ x) hv
      exact ⟨F, pl, w, _, cv, by simp [execOp, h1], .inl rfl, h, h2⟩
    · exact other hf rfl
  case store t x y =>
    simp only [opF] at hf
    obtain ⟨u, hu, e⟩ := Option.map_eq_some_iff.1 hf
    simp only [Prod.mk.injEq] at e
    obtain ⟨rfl, rfl⟩ := e
    obtain ⟨F', w', h1, h2⟩ := store_sound (P := P) htt h (hρ x) (hρ y) hu
    exact ⟨F', pl, w', _, undef, by simp [execOp, h1], .inr ⟨rfl, rfl⟩, h2, .un⟩
  case convert src dst x =>
    simp only [opF] at hf
    split at hf
    · rename_i hb
      obtain ⟨s, rfl, rfl, h1⟩ := bytes_sound (P := P) htt h.wr hb (hρ x) hf
      exact ⟨F, pl, w, _, .string s, by simp [execOp, h1], .inl rfl, h, .lit⟩
    · exact other hf rfl
  case call cl =>
    obtain ⟨callee, args, argTypes⟩ := cl
    cases callee
    case builtin b =>
      cases b
      case append =>
        simp only [opF] at hf
        split at hf <;> try contradiction
        rename_i t tx s x hts has
        split at hf
        · rename_i hmk
          obtain ⟨F', pl', w', cv, h1, h2, h3⟩ := appMake_sound (P := P) htt h hk0 (ty := ty) hmk (hρ s) (hρ x) hf
          refine ⟨F', pl', w', _, cv, ?_, .inl rfl, h2, h3⟩
          rw [arr_two hts, arr_two has]
          simp [execOp, resolve, invoke, builtin, h1]
        unfold appendF at hf
        split at hf <;> try contradiction
        rename_i e _ _ _ ht
        obtain ⟨i, d, hk⟩ := htt.get ht
        split at hf <;> try contradiction
        rename_i ei stb hei hsk
        obtain ⟨i2, d2, hk2⟩ := htt.get hei
        split at hf <;> try contradiction
        rename_i xs hxs
        obtain ⟨F', pl', w', cv, h1, h2, h3⟩ := append_sound (P := P) h hk0 (ty := ty) hk.slice hk2 (kind_of htt hsk) (hρ s) (hρ x) hxs hf
        refine ⟨F', pl', w', _, cv, ?_, .inl rfl, h2, h3⟩
        rw [arr_two hts, arr_two has]
        simp [execOp, resolve, invoke, builtin, h1]
      case copy =>
        simp only [opF] at hf
        split at hf <;> try contradiction
        rename_i t tx s x hts has
        unfold copyG at hf
        split at hf <;> try contradiction
        rename_i e _ _ _ ht
        obtain ⟨i, d, hk⟩ := htt.get ht
        split at hf <;> try contradiction
        rename_i ei hei hsk
        obtain ⟨i2, d2, hk2⟩ := htt.get hei
        split at hf <;> try contradiction
        rename_i hn
        split at hf <;> try contradiction
        rename_i xs hxs
        have hkk : ∃ e', P.underlying tx = some (.slice e') := by
          rcases kind_of htt hsk with ⟨_, g⟩ | ⟨g, _⟩
          · exact g
          · cases g
        obtain ⟨w', cv, h1, h2, h3⟩ := copy_sound (P := P) h (ty := ty) hk.slice hk2 (by omega) hkk (hρ s) (hρ x) hxs hf
        refine ⟨F, pl, w', _, cv, ?_, .inl rfl, h2, h3⟩
        rw [arr_two hts, arr_two has]
        simp [execOp, resolve, invoke, builtin, h1]
      case clear =>
        simp only [opF] at hf
        split at hf <;> try contradiction
        rename_i t s hts has
        unfold clearG at hf
        split at hf <;> try contradiction
        rename_i e _ _ _ ht
        obtain ⟨i, d, hk⟩ := htt.get ht
        split at hf <;> try contradiction
        rename_i ei hei
        obtain ⟨i2, d2, hk2⟩ := htt.get hei
        obtain ⟨u, hu, e'⟩ := Option.map_eq_some_iff.1 hf
        simp only [Prod.mk.injEq] at e'
        obtain ⟨rfl, rfl⟩ := e'
        obtain ⟨w', h1, h2⟩ := clear_sound (P := P) h (ty := ty) hk.slice hk2 (hρ s) hu
        refine ⟨F, pl, w', _, .tuple #[], ?_, .inl rfl, h2, .tup _ rfl (fun i x hi => by simp at hi)⟩
        rw [arr_one hts, arr_one has]
        simp [execOp, resolve, invoke, builtin, h1]
      all_goals exact other (x := (v, ups)) (by simpa only [opF] using hf) rfl
    all_goals exact other (x := (v, ups)) (by simpa only [opF] using hf) rfl
  all_goals exact other (x := (v, ups)) (by simpa only [opF] using hf) rfl

theorem op_sound (htt : TTok P tt) (h : InvE c st a w) {nk : Key} (hk0 : nk.1 ≠ 0) (o : Oper) {v : V} {ups : List (Key × Obj)} (hf : opF tt nk o.op (ev st.tm) st.ob = some (v, ups)) {next : Act → World → Prop} {Q : Exit → Act → World → Prop}
    (hn : ∀ a' w', InvE c (({ st with ob := st.ob.sets ups } : St).put o.dst v) a' w' → next a' w') : o.wp P a w next Q := by
  obtain ⟨F, pl, hI⟩ := h
  obtain ⟨F', pl', w', r, cv, h1, h2, h3, h4⟩ := op_run (P := P) htt hI hk0 o hf
  unfold Oper.wp
  rw [h1]
  rcases h2 with rfl | ⟨rfl, rfl⟩
  · exact hn _ _ ⟨F', pl', h3.put o.dst h4⟩
  · exact hn _ _ ⟨F', pl', h3.put o.dst h4⟩
end
end Go.Eng
