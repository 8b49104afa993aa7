import Derived.Test.YtpfmaiiolifblaaXTry
import Derived.Test.YtpfmaiiolifblaaXEng29
namespace Go.Eng.T
open Go.Proofs Go.Eng
set_option maxRecDepth 100000
set_option maxHeartbeats 0

def I64 (n : Int) : Prop := -9223372036854775808 ≤ n ∧ n ≤ 9223372036854775807
abbrev encB (x : Int) : V := encU x
abbrev iv (x : Int) : V := .lit (.int .i64 x)
abbrev uv (x : Int) : V := .lit (.int .u64 x)
abbrev yv (x : Int) : V := .lit (.int .u8 x)
abbrev bv (b : Bool) : V := .lit (.bool b)
abbrev nilS : V := .lit (.slice none 0 0)
def keepL : List (Nat × List Nat × List Key) → Nat → List Nat × List Key
  | [], _ => ([], [])
  | (k, v) :: r, n => bif Nat.beq k n then v else keepL r n
def immL : List (Nat × List Nat) → Nat → List Nat
  | [], _ => []
  | (k, v) :: r, n => bif Nat.beq k n then v else immL r n
/-- Loops at which a row that has grown goes over to its standing number. -/
def swF (ob : Store) (k : Key) : List Nat → List (Key × Key)
  | [] => []
  | s :: l => match ob (s, 0) with
    | some _ => [((s, 0), k)]
    | none => swF ob k l
def swL (l : List (Nat × Key × List Nat)) : Nat → Store → List (Key × Key) := fun n ob => match l with
  | [] => []
  | (m, k, ss) :: l => bif Nat.beq m n then swF ob k ss else swL l n ob
abbrev ann (l : List (Nat × List Nat × List Key)) : Ann := { imm := immL [], keep := keepL l }
abbrev annI (i : List (Nat × List Nat)) (l : List (Nat × List Nat × List Key)) : Ann := { imm := immL i, keep := keepL l }
abbrev annW (i : List (Nat × List Nat)) (l : List (Nat × List Nat × List Key)) (s : List (Nat × Key × List Nat)) : Ann := { imm := immL i, keep := keepL l, sw := swL s }
theorem kT {K : V → List Obj → List Obj → Prop} {P : Prop} (hK : ∀ r, (r = true ↔ P) → K (bv r) [] []) (h : P) : K (bv true) [] [] := hK true ⟨fun _ => h, fun _ => rfl⟩
theorem kF {K : V → List Obj → List Obj → Prop} {P : Prop} (hK : ∀ r, (r = true ↔ P) → K (bv r) [] []) (h : ¬ P) : K (bv false) [] [] := hK false ⟨fun h1 => (nomatch h1), fun h1 => absurd h1 h⟩
theorem wrap_i64 {x : Int} (h : -9223372036854775808 ≤ x ∧ x ≤ 9223372036854775807) : IntKind.i64.wrap x = x := by
  simp only [IntKind.wrap, IntKind.signed, IntKind.bits]
  simp
  omega
theorem wrap_u64 {x : Int} (h : 0 ≤ x ∧ x ≤ 18446744073709551615) : IntKind.u64.wrap x = x := by
  simp only [IntKind.wrap, IntKind.signed, IntKind.bits]
  simp
  omega
theorem wrap_u8 {x : Int} (h : 0 ≤ x ∧ x ≤ 255) : IntKind.u8.wrap x = x := by
  simp only [IntKind.wrap, IntKind.signed, IntKind.bits]
  simp
  omega
theorem wrap_u64_mod {x : Int} : IntKind.u64.wrap x = x % 18446744073709551616 := by
  simp only [IntKind.wrap, IntKind.signed, IntKind.bits]
  simp
theorem wrap_u8_mod {x : Int} : IntKind.u8.wrap x = x % 256 := by
  simp only [IntKind.wrap, IntKind.signed, IntKind.bits]
  simp
theorem tmod_nn {x y : Int} (hx : 0 ≤ x) (hy : 0 < y) : 0 ≤ x.tmod y ∧ x.tmod y < y := by
  rw [Int.tmod_eq_emod_of_nonneg hx]
  exact ⟨Int.emod_nonneg _ (by omega), Int.emod_lt_of_pos _ hy⟩
theorem tdiv_nn {x y : Int} (hx : 0 ≤ x) (hy : 0 < y) : 0 ≤ x.tdiv y ∧ x.tdiv y ≤ x := by
  rw [Int.tdiv_eq_ediv_of_nonneg hx]
  exact ⟨Int.ediv_nonneg hx (by omega), Int.ediv_le_self _ hx⟩
theorem tdiv_e {x y : Int} (h : 0 ≤ x) : x.tdiv y = x / y := Int.tdiv_eq_ediv_of_nonneg h
theorem tmod_e {x y : Int} (h : 0 ≤ x) : x.tmod y = x % y := Int.tmod_eq_emod_of_nonneg h
theorem map_get {α : Type} [Inhabited α] {f : α → V} {l : List α} {i : Int} (h : 0 ≤ i ∧ i < (l.map f).length) : (l.map f)[i.toNat]? = some (f (l.getD i.toNat default)) := by
  have : i.toNat < l.length := by rw [List.length_map] at h; omega
  rw [List.getElem?_map, List.getD_eq_getElem?_getD, List.getElem?_eq_getElem this]; rfl
theorem map_get0 {α : Type} [Inhabited α] {f : α → V} {l : List α} {i : Int} (h : 0 ≤ i ∧ i < (l.map f).length) : (l.map f)[0 + i.toNat]? = some (f (l.getD i.toNat default)) := by
  rw [Nat.zero_add]; exact map_get h
/-- A byte is appended. -/
theorem app_es {α : Type} {f : α → V} {l : List α} {x : α} {es' : List V} (h : es' = ((l.map f).drop 0).take l.length ++ [f x]) : es' = (l ++ [x]).map f := by
  rw [h, List.drop_zero, List.take_of_length_le (by simp), List.map_append]; rfl
theorem app_len {α : Type} {l : List α} {x : α} {l' : Nat} {y : V} (h : l' = l.length + [y].length) : l' = (l ++ [x]).length := by rw [h]; simp
def Bytes (D : List Int) : Prop := ∀ x ∈ D, 0 ≤ x ∧ x ≤ 255
theorem str_list (ns : List Int) : (strOfNums ns).toList = ns.map fun n => UInt8.ofNat n.toNat := by
  rw [ByteArray.toList_eq]; exact strOfNums_data ns
theorem str_eq {a b : List Int} (ha : Bytes a) (hb : Bytes b) : ((strOfNums a).toList == (strOfNums b).toList) = true ↔ a = b := by
  rw [str_list, str_list, beq_iff_eq]
  constructor
  · intro h
    induction a generalizing b with
    | nil => cases b with
      | nil => rfl
      | cons y b => simp at h
    | cons x a ih => cases b with
      | nil => simp at h
      | cons y b =>
        simp only [List.map_cons, List.cons.injEq] at h
        have h1 := ha x List.mem_cons_self
        have h2 := hb y List.mem_cons_self
        have h3 := congrArg UInt8.toNat h.1
        rw [UInt8.toNat_ofNat', UInt8.toNat_ofNat'] at h3
        rw [ih (fun z hz => ha z (List.mem_cons_of_mem _ hz)) (fun z hz => hb z (List.mem_cons_of_mem _ hz)) h.2]
        congr 1
        omega
  · rintro rfl; rfl
theorem bytes_get {D : List Int} (h : Bytes D) {i : Nat} (hi : i < D.length) : 0 ≤ D.getD i default ∧ D.getD i default ≤ 255 := by
  rw [List.getD_eq_getElem?_getD, List.getElem?_eq_getElem hi]; exact h _ (List.getElem_mem hi)
theorem take_step {D : List Int} {a j : Nat} (h : a + j < D.length) : (D.drop a).take (j + 1) = (D.drop a).take j ++ [D.getD (a + j) default] := by
  rw [List.take_add_one, List.getElem?_drop, List.getD_eq_getElem?_getD, List.getElem?_eq_getElem h]; rfl
theorem sub_bytes {D : List Int} (h : Bytes D) {a j : Nat} : Bytes ((D.drop a).take j) := fun x hx => h x (List.mem_of_mem_drop (List.mem_of_mem_take hx))
/-- A question with two answers. -/
def Two (f : FuncId) (args : List V) (P : Prop) : Prop := ∀ {K : V → List Obj → List Obj → Prop}, (P → K (bv true) [] []) → (¬ P → K (bv false) [] []) → AC Try.prog f args [] K
abbrev rowB (l : List Int) : Obj := .arr true 1 (l.map encB)
/-- A row is appended to a row. -/
theorem app_row {l m : List Int} {es' : List V} (h : es' = ((l.map encB).drop 0).take l.length ++ m.map encB) : es' = (l ++ m).map encB := by
  rw [h, List.drop_zero, List.take_of_length_le (by simp), List.map_append]
theorem row_all {l : List Int} {xs : List V} (h : xs = ((l.map encB).drop 0).take l.length) : xs = l.map encB := by
  rw [h, List.drop_zero, List.take_of_length_le (by simp)]
theorem noIs_map {α : Type} {f : α → V} (h : ∀ x, (f x).noIs = true) (n : Nat) (l : List α) : noIsO [.arr true n (l.map f)] = true := by
  have : noIsL (l.map f) = true := noIsL_of fun x hx => by obtain ⟨i, _, rfl⟩ := List.mem_map.1 hx; exact h i
  show ((noIsL (l.map f)) && true) = true
  rw [this]; rfl
theorem noIs_rowB (l : List Int) : noIsO [rowB l] = true := noIs_map (fun _ => rfl) 1 l
/-- A row of bytes, lent; what stands behind it is plain. -/
theorem lend_same {k : Key} {n : Nat} {es : List V} : ∀ {xs : List V}, (∀ x ∈ xs, x.ments = []) → LendA k n es xs xs
  | [], _ => .nil
  | x :: xs, h => .cons (.same (by rw [h x List.mem_cons_self]; exact List.not_mem_nil)) (lend_same fun y hy => h y (List.mem_cons_of_mem _ hy))
theorem AC.row {P : Program} {f : FuncId} {d : List Int} {xs : List V} {K : V → List Obj → List Obj → Prop} (hx : ∀ x ∈ xs, x.ments = []) (h : AC P f (.is 1 (d.map encB) :: xs) [] fun v o n => (v.noIs = true ∧ noIsO o = true ∧ noIsO n = true) ∧ K v (o ++ [rowB d]) n) :
    AC P f (.ls (0, 0) 1 0 d.length :: xs) [rowB d] K :=
  AC.borrow (objs := []) (.cons (.all (by simp)) (lend_same hx)) (fun _ h => nomatch h) h
theorem no_xs : ∀ x ∈ ([] : List V), x.ments = [] := fun _ h => nomatch h
theorem set_take {α : Type} {l : List α} {i : Nat} {x : α} (h : i < l.length) : (l.set i x).take (i + 1) = l.take i ++ [x] := by
  rw [List.take_add_one, List.take_set_of_le (Nat.le_refl _), List.getElem?_set_self h]; rfl
theorem take_succD {α : Type} [Inhabited α] {l : List α} {i : Nat} (h : i < l.length) : l.take i ++ [l.getD i default] = l.take (i + 1) := by
  rw [List.take_add_one, List.getElem?_eq_getElem h, List.getD_eq_getElem?_getD, List.getElem?_eq_getElem h]; rfl
/-- What stands behind a piece of code, as a letter. -/
theorem cw_seq {P : Program} {tt : TT} {A : Ann} {FK : List (Key × Bool)} {a b : Code} {st : St} {Q : Ex → St → Prop} (h : ∀ Q1 : Ex → St → Prop, (∀ s, cwF P tt A FK b s Q → Q1 .normal s) → (∀ j s, Q (.exit j) s → Q1 (.exit j) s) → (∀ s, Q .ret s → Q1 .ret s) → cwF P tt A FK a st Q1) : cwF P tt A FK (.seq a b) st Q := by
  simp only [cwF]
  exact h _ (fun _ h => h) (fun _ _ h => h) (fun _ h => h)
theorem cw_gen {P : Program} {tt : TT} {A : Ann} {FK : List (Key × Bool)} {a : Code} {st : St} {Q : Ex → St → Prop} (h : ∀ Q1 : Ex → St → Prop, (∀ s, Q .normal s → Q1 .normal s) → (∀ j s, Q (.exit j) s → Q1 (.exit j) s) → (∀ s, Q .ret s → Q1 .ret s) → cwF P tt A FK a st Q1) : cwF P tt A FK a st Q :=
  h _ (fun _ h => h) (fun _ _ h => h) (fun _ h => h)
theorem cw_block {P : Program} {tt : TT} {A : Ann} {FK : List (Key × Bool)} {id : Nat} {b : Code} {st : St} {Q : Ex → St → Prop} (h : ∀ Q1 : Ex → St → Prop, (∀ s, Q .normal s → Q1 .normal s) → (∀ s, Q .normal s → Q1 (.exit id) s) → (∀ j s, j ≠ id → Q (.exit j) s → Q1 (.exit j) s) → (∀ s, Q .ret s → Q1 .ret s) → cwF P tt A FK b st Q1) : cwF P tt A FK (.block id b) st Q := by
  simp only [cwF]
  exact h _ (fun _ h => h) (fun _ h => by simpa using h) (fun j _ hj h => by simpa [hj] using h) (fun _ h => h)
/-- Two rows, lent to a question. -/
theorem AC.two {f : FuncId} {n m : Nat} {es fs : List V} {p : Prop} (h : Two f [.is n es, .is m fs] p) (he : noIsO [.arr true n es] = true) {K : V → List Obj → List Obj → Prop} (hT : p → K (bv true) [.arr true n es, .arr true m fs] []) (hF : ¬ p → K (bv false) [.arr true n es, .arr true m fs] []) :
    AC Try.prog f [.ls (0, 0) n 0 es.length, .ls (0, 1) m 0 fs.length] [.arr true n es, .arr true m fs] K :=
  AC.borrow (objs := [.arr true n es]) (.cons (.same (by simp [V.ments])) (.cons (.all rfl) .nil)) (fun x hx => by
      rw [List.mem_singleton.1 hx]
      intro hk
      have : ∀ k, k ∉ (Obj.arr true n es).ments := fun k hk => by simp [Obj.ments] at hk
      exact this _ hk)
    (AC.borrow (objs := []) (.cons (.all rfl) (.cons (.same List.not_mem_nil) .nil)) (fun _ h => nomatch h)
      (h (fun hp => ⟨⟨rfl, rfl, rfl⟩, ⟨rfl, he, rfl⟩, hT hp⟩) (fun hp => ⟨⟨rfl, rfl, rfl⟩, ⟨rfl, he, rfl⟩, hF hp⟩)))
/-- Nothing is an empty row. -/
theorem nil_is {F : Cells} {m : Mem} {pl : Places} {cv : Value} {n : Nat} (h : RepV F m pl nilS cv) : RepV F m pl (.is n []) cv := by
  cases h.lit_inv; exact .isn
/-- Arguments that are less known. -/
theorem AC.args {P : Program} {f : FuncId} {xs ys : List V} {objs : List Obj} {K : V → List Obj → List Obj → Prop} (hl : xs.length = ys.length) (h0 : ∀ (i : Nat) y, ys[i]? = some y → ∃ x, xs[i]? = some x ∧ ∀ {F : Cells} {m : Mem} {pl : Places} {cv : Value}, RepV F m pl x cv → RepV F m pl y cv) (h : AC P f ys objs K) : AC P f xs objs K := by
  intro F pl w cargs hw hsz hrep
  exact h F pl w cargs hw (by rw [hsz, hl]) fun i y hi hy => by
    obtain ⟨x, h1, h2⟩ := h0 i y hy
    exact h2 (hrep i x hi h1)
theorem bytes_take {l : List Int} (h : Bytes l) (i : Nat) : Bytes (l.take i) := fun x hx => h x (List.mem_of_mem_take hx)
theorem bytes_drop {l : List Int} (h : Bytes l) (i : Nat) : Bytes (l.drop i) := fun x hx => h x (List.mem_of_mem_drop hx)
theorem Bytes.get {D : List Int} (h : Bytes D) (i : Nat) : 0 ≤ D.getD i default ∧ D.getD i default ≤ 255 := by
  by_cases hi : i < D.length
  · rw [List.getD_eq_getElem?_getD, List.getElem?_eq_getElem hi]
    exact h _ (List.getElem_mem hi)
  · rw [List.getD_eq_getElem?_getD, List.getElem?_eq_none (by omega)]
    exact ⟨by decide, by decide⟩
theorem bytes_set {Y : List Int} {i : Nat} {x : Int} (h : Bytes Y) (hx : 0 ≤ x ∧ x ≤ 255) : Bytes (Y.set i x) := fun y hy => by
  rcases List.mem_or_eq_of_mem_set hy with h1 | rfl
  · exact h y h1
  · exact hx
theorem bytes_cut {X : List Int} (h : Bytes X) (i n : Nat) : Bytes ((X.drop i).take n) := bytes_take (bytes_drop h i) n
theorem lendL_same {k : Key} {n : Nat} {es : List V} : ∀ {xs : List V}, (∀ x ∈ xs, x.ments = []) → LendL k n es xs xs
  | [], _ => .nil
  | x :: xs, h => .cons (.same (by rw [h x List.mem_cons_self]; exact List.not_mem_nil)) (lendL_same fun y hy => h y (List.mem_cons_of_mem _ hy))
/-- One step of telling a new row as one that nobody changes any more, or none. -/
abbrev FrO (K : V → List Obj → List Obj → Prop) (v : V) (objs news : List Obj) : Prop := (∃ v' news' n es, news = news' ++ [.arr true n es] ∧ LendR (1, news'.length) n es v v' ∧ (∀ x ∈ objs ++ news', (1, news'.length) ∉ x.ments) ∧ K v' objs news') ∨ K v objs news
/-- What comes back is told by less. -/
theorem AC.weak {P : Program} {f : FuncId} {args : List V} {objs : List Obj} {K : V → List Obj → List Obj → Prop}
    (h : AC P f args objs fun v o n => ∃ v', (∀ {F : Cells} {m : Mem} {pl : Places} {cv : Value}, RepV F m pl v cv → RepV F m pl v' cv) ∧ K v' o n) : AC P f args objs K :=
  fun F pl w cargs h1 h2 h3 => (h F pl w cargs h1 h2 h3).mono fun _ _ ⟨_, a, b, F', pl', ⟨v', hv, hK⟩, hb⟩ => ⟨v', a, b, F', pl', hK, ⟨hv hb.rep, hb.wr, hb.len, hb.plk, hb.fF, hb.fX, hb.own, hb.same⟩⟩
theorem mem_objs {objs n : List Obj} {j : Nat} (hm : ∀ x ∈ objs, ∀ j, (1, j) ∉ x.ments) (hn : ∀ x ∈ n, x.ments = []) : ∀ x ∈ objs ++ n, (1, j) ∉ x.ments := fun x hx => by
  rcases List.mem_append.1 hx with hx | hx
  · exact hm x hx _
  · rw [hn x hx]; exact List.not_mem_nil
theorem frzC3 {α β γ : Type} {a b c d : V} {f : α → V} {g : β → V} {h : γ → V} {n m l : Nat} {qs : List α} {ss : List β} {rs : List γ} {objs : List Obj} {K : V → List Obj → List Obj → Prop} (hr : ∀ x ∈ [a, b, c, d], x.ments = []) (hm : ∀ x ∈ objs, ∀ j, (1, j) ∉ x.ments)
    (k : K (.agg [a, b, c, d, .is n (qs.map f), .is m (ss.map g), .is l (rs.map h)]) objs []) : FrO (FrO (FrO K)) (.agg [a, b, c, d, .ls (1, 0) n 0 qs.length, .ls (1, 1) m 0 ss.length, .ls (1, 2) l 0 rs.length]) objs [.arr true n (qs.map f), .arr true m (ss.map g), .arr true l (rs.map h)] := by
  have ha : a.ments = [] := hr a (by simp)
  have hb : b.ments = [] := hr b (by simp)
  have hc : c.ments = [] := hr c (by simp)
  have hd : d.ments = [] := hr d (by simp)
  refine .inl ⟨.agg [a, b, c, d, .ls (1, 0) n 0 qs.length, .ls (1, 1) m 0 ss.length, .is l (rs.map h)], [.arr true n (qs.map f), .arr true m (ss.map g)], l, _, rfl, .agg (.cons (.same (by simp [ha])) (.cons (.same (by simp [hb])) (.cons (.same (by simp [hc])) (.cons (.same (by simp [hd])) (.cons (.same (by simp [V.ments])) (.cons (.same (by simp [V.ments])) (.cons (.all (by simp)) .nil))))))), mem_objs hm (by simp [Obj.ments]), ?_⟩
  refine .inl ⟨.agg [a, b, c, d, .ls (1, 0) n 0 qs.length, .is m (ss.map g), .is l (rs.map h)], [.arr true n (qs.map f)], m, _, rfl, .agg (.cons (.same (by simp [ha])) (.cons (.same (by simp [hb])) (.cons (.same (by simp [hc])) (.cons (.same (by simp [hd])) (.cons (.same (by simp [V.ments])) (.cons (.all (by simp)) (.cons (.same (by simp [V.ments])) .nil))))))), mem_objs hm (by simp [Obj.ments]), ?_⟩
  exact .inl ⟨_, [], n, _, rfl, .agg (.cons (.same (by simp [ha])) (.cons (.same (by simp [hb])) (.cons (.same (by simp [hc])) (.cons (.same (by simp [hd])) (.cons (.all (by simp)) (.cons (.same (by simp [V.ments])) (.cons (.same (by simp [V.ments])) .nil))))))), mem_objs hm (by simp), k⟩
theorem frzC2 {α β : Type} {a b c d e : V} {f : α → V} {g : β → V} {n m : Nat} {qs : List α} {ss : List β} {objs : List Obj} {K : V → List Obj → List Obj → Prop} (hr : ∀ x ∈ [a, b, c, d, e], x.ments = []) (hm : ∀ x ∈ objs, ∀ j, (1, j) ∉ x.ments)
    (k : K (.agg [a, b, c, d, .is n (qs.map f), .is m (ss.map g), e]) objs []) : FrO (FrO (FrO K)) (.agg [a, b, c, d, .ls (1, 0) n 0 qs.length, .ls (1, 1) m 0 ss.length, e]) objs [.arr true n (qs.map f), .arr true m (ss.map g)] := by
  have ha : a.ments = [] := hr a (by simp)
  have hb : b.ments = [] := hr b (by simp)
  have hc : c.ments = [] := hr c (by simp)
  have hd : d.ments = [] := hr d (by simp)
  have he : e.ments = [] := hr e (by simp)
  refine .inl ⟨.agg [a, b, c, d, .ls (1, 0) n 0 qs.length, .is m (ss.map g), e], [.arr true n (qs.map f)], m, _, rfl, .agg (.cons (.same (by simp [ha])) (.cons (.same (by simp [hb])) (.cons (.same (by simp [hc])) (.cons (.same (by simp [hd])) (.cons (.same (by simp [V.ments])) (.cons (.all (by simp)) (.cons (.same (by simp [he])) .nil))))))), mem_objs hm (by simp [Obj.ments]), ?_⟩
  exact .inl ⟨_, [], n, _, rfl, .agg (.cons (.same (by simp [ha])) (.cons (.same (by simp [hb])) (.cons (.same (by simp [hc])) (.cons (.same (by simp [hd])) (.cons (.all (by simp)) (.cons (.same (by simp [V.ments])) (.cons (.same (by simp [he])) .nil))))))), mem_objs hm (by simp), .inr k⟩
end Go.Eng.T
