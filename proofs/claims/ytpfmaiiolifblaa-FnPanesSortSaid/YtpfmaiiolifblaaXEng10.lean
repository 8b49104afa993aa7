import Derived.Test.YtpfmaiiolifblaaXEng7
import Derived.Laws.MakeOwn
import Derived.Laws.BytesArg
/- A machine of values for the program's code, part 10: the other operations that make, read and change objects. -/
namespace Go.Eng
open Go.RowKit

def setCellsV (e : V) (off : Nat) (xs : List V) : Option V :=
  match e with
  | .agg cs => if off + xs.length ≤ cs.length then some (.agg (cs.take off ++ xs ++ cs.drop (off + xs.length))) else none
  | _ => match off, xs with
    | 0, [x] => some x
    | _, _ => none

def makeV (tt : TT) (nk : Key) (get : Store) (elem : TypeId) (x : V) : Option (V × List (Key × Obj)) :=
  match tt elem with
  | some ti => if 0 < ti.size ∧ get nk = none ∧ okE ti.size x = true then some (.lp nk ti.size 0 0, [(nk, .arr false ti.size [x])]) else none
  | none => none

def loadF (tt : TT) (get : Store) (t : TypeId) (x : V) : Option V :=
  match tt t, x with
  | some ti, .lp k n i off => match get k with
    | some (.arr _ n' es) => if n' = n then match es[i]? with
      | some e => loadV ti e off
      | none => none
      else none
    | some (.froz n' es) => if n' = n then match es[i]? with
      | some e => loadV ti e off
      | none => none
      else none
    | _ => none
  | _, _ => none

def keepOrFrz (kf : Bool) (get : Store) (x : V) : Option (V × List (Key × Obj)) := if kf then frz get x else some (x, [])

def storeF (tt : TT) (get : Store) (t : TypeId) (a x : V) : Option (List (Key × Obj)) :=
  match tt t, a with
  | some ti, .lp k n i off => match get k with
    | some (.arr kf n' es) => if n' = n ∧ okE ti.size x = true ∧ k ∉ x.ments then match es[i]? with
      | some e => match keepOrFrz kf get x with
        | some (x', ups) => match setCellsV e off x'.cells with
          | some e' => some (ups ++ [(k, .arr kf n (es.set i e'))])
          | none => none
        | none => none
      | none => none
      else none
    | _ => none
  | _, _ => none

/-- Rows whose elements name no objects: all but rows of rows. -/
def kfT : TD → Bool
  | .slice _ => false
  | _ => true

def makeSliceF (tt : TT) (nk : Key) (get : Store) (t : TypeId) (l c : V) : Option (V × List (Key × Obj)) :=
  match tt t with
  | some ⟨.slice e, _, _, _⟩ => match tt e, l, c with
    | some ei, .lit (.int _ l), .lit (.int _ c) =>
      if 0 < ei.size ∧ get nk = none ∧ 0 ≤ l ∧ l ≤ c ∧ c ≤ 140737488351232 ∧ c * ei.bytes ≤ 281474976710656 then
        some (.ls nk ei.size 0 l.toNat, [(nk, .arr (kfT ei.td) ei.size (List.replicate l.toNat ei.zeroV))])
      else none
    | _, _, _ => none
  | _ => none

def putParts (n : Nat) (get : Store) : List V → List (Nat × V) → Option (List V × List (Key × Obj))
  | es, [] => some (es, [])
  | es, (i, x) :: r => if i < es.length ∧ okE n x = true then match frz get x with
      | some (x', u) => match putParts n get (es.set i x') r with
        | some (es', us) => some (es', u ++ us)
        | none => none
      | none => none
    else none

def buildSliceF (tt : TT) (nk : Key) (get : Store) (t : TypeId) (len : Nat) (parts : List (Nat × V)) : Option (V × List (Key × Obj)) :=
  match tt t with
  | some ⟨.slice e, _, _, _⟩ => match tt e with
    | some ei => if 0 < ei.size ∧ len * ei.size ≤ 16777216 ∧ get nk = none then match putParts ei.size get (List.replicate len ei.zeroV) parts with
        | some (es, ups) => some (.ls nk ei.size 0 len, ups ++ [(nk, .arr true ei.size es)])
        | none => none
      else none
    | none => none
  | _ => none

def copyF (ei : TI) (get : Store) (xs : List V) (d : V) : Option (V × List (Key × Obj)) :=
  match d with
  | .ls k n i len => match get k with
    | some (.arr true n' es) => if n = ei.size ∧ n' = ei.size ∧ i + len ≤ es.length then
        some (.lit (.int .i64 (Nat.min xs.length len)), [(k, .arr true n' (es.take i ++ xs.take (Nat.min xs.length len) ++ es.drop (i + Nat.min xs.length len)))]) else none
    | _ => none
  | _ => none

def clearF (ei : TI) (get : Store) (d : V) : Option (List (Key × Obj)) :=
  match d with
  | .ls k n i len => match get k with
    | some (.arr true n' es) => if n = ei.size ∧ n' = ei.size ∧ i + len ≤ es.length then
        some [(k, .arr true n' (es.take i ++ List.replicate len ei.zeroV ++ es.drop (i + len)))] else none
    | _ => none
  | .lit (.slice none 0 0) => some []
  | .e0 => some []
  | _ => none

section
variable {P : Program} {tt : TT} {c : Ctx} {F : Cells} {pl : Places} {st : St} {a : Act} {w : World}

theorem zeroV_cells {t : TypeId} {ti : TI} {i : TypeInfo} {d : TypeDesc} (h : TOk P t ti i d) : ti.zeroV.cells.length = ti.size ∧ ti.zeroV.cells.all scal = true ∧ ti.zeroV.ments = [] ∧
    ti.zeroVal.cells.size = ti.size ∧ ∀ (c : Nat) y, ti.zeroV.cells[c]? = some y → ∃ cv, ti.zeroVal.cells[c]? = some cv ∧ y = .lit cv := by
  unfold TI.zeroV TI.zeroVal
  cases ha : ti.td.isAgg with
  | true =>
    have hz := h.zl
    have hm : ∀ l : List Z, mentsL (l.map fun z => V.lit z.val) = [] := by
      intro l; induction l with
      | nil => rfl
      | cons z t ih => simp only [List.map_cons, mentsL, V.ments, ih]; rfl
    refine ⟨by simp [V.cells, hz], ?_, hm _, by simp [Value.cells, hz], fun c y hy => ?_⟩
    · simp only [V.cells, List.all_map, List.all_eq_true]
      intro z _; cases z <;> rfl
    · simp only [V.cells, List.getElem?_map, Option.map_eq_some_iff] at hy
      obtain ⟨z, hz, rfl⟩ := hy
      exact ⟨z.val, by simp [Value.cells, hz], rfl⟩
  | false =>
    have h1 := h.zs ha
    have hz := h.zl
    rw [h1] at hz
    match hzz : ti.zero, hz with
    | [z], _ =>
      refine ⟨by simp [V.cells, h1], ?_, rfl, ?_, fun c y hy => ?_⟩
      · cases z <;> rfl
      · rw [h1]; cases z <;> rfl
      · have : c = 0 := by
          have := (List.getElem?_eq_some_iff.1 hy).1
          simp [V.cells] at this; exact this
        subst this
        simp only [V.cells, List.getElem?_cons_zero, Option.some.injEq] at hy; subst hy
        exact ⟨z.val, by cases z <;> rfl, rfl⟩

theorem run_newVar (e : TypeId) (v : Value) : (newVar e v).run P w = .ok ⟨w.heap.size, 0, none⟩ (w.alloc (.cells v.cells e)) := rfl

theorem okE_iff {n : Nat} {x : V} : okE n x = true ↔ x.cells.length = n ∧ x.cells.all scal = true := by simp [okE]

theorem all_get {l : List V} (h : l.all scal = true) {i : Nat} {x : V} (hx : l[i]? = some x) : scal x = true := List.all_eq_true.1 h x (List.mem_of_getElem? hx)

/-- A new variable. -/
theorem make_sound (h : Inv c F pl st a w) {nk : Key} (hk0 : nk.1 ≠ 0) {elem : TypeId} {x : V} {cx : Value} (hx : RepV F (memOf w) pl x cx) {v : V} {ups : List (Key × Obj)} (hm : makeV tt nk st.ob elem x = some (v, ups)) :
    ∃ pl' w' cv, (Instr.box elem cx).run P w = .ok cv w' ∧ Inv c F pl' { st with ob := st.ob.sets ups } a w' ∧ RepV F (memOf w') pl' v cv := by
  unfold makeV at hm
  split at hm <;> try contradiction
  rename_i ti hti
  split at hm <;> try contradiction
  rename_i hc
  obtain ⟨h0, hnk, hok⟩ := hc
  obtain ⟨h1, h2⟩ := okE_iff.1 hok
  simp only [Option.some.injEq, Prod.mk.injEq] at hm
  obtain ⟨rfl, rfl⟩ := hm
  obtain ⟨vc, k1, k2, k3⟩ := rep_cells hx h2
  have hmk := h.make hk0 hnk false h0 (C := 1) (es := [x]) (by simp) (cs := cx.cells) (by rw [k1, k2, h1]; simp) elem (fun j y hy => by
    have hj : j = 0 := by have := (List.getElem?_eq_some_iff.1 hy).1; simp at this; exact this
    subst hj
    simp only [List.getElem?_cons_zero, Option.some.injEq] at hy; subst hy
    refine ⟨h1, fun c y hy => ⟨all_get h2 hy, ?_⟩⟩
    have hc := (List.getElem?_eq_some_iff.1 hy).1
    rw [← k2] at hc
    exact ⟨vc[c], by simp [k1, hc], by simpa [Obj.plc] using k3 c y hc hy⟩)
  refine ⟨_, _, _, ?_, hmk, .lp (Places.set_self _ _ _) rfl⟩
  simp only [Instr.box, Sem.run_bind, run_newVar, Result.andThen]
  simp

theorem plc_rep {F : Cells} {m : Mem} {kf : Bool} {x : V} {cv : Value} (h : RepV F m (Obj.plc kf pl) x cv) : RepV F m pl x cv := by
  unfold Obj.plc at h
  split at h
  · exact h.ofNo
  · exact h

theorem load_sound (htt : TTok P tt) (h : Inv c F pl st a w) {t : TypeId} {x : V} {cx : Value} (hx : RepV F (memOf w) pl x cx) {v : V} (hl : loadF tt st.ob t x = some v) :
    ∃ cv, (Instr.loadAt t cx).run P w = .ok cv w ∧ RepV F (memOf w) pl v cv := by
  unfold loadF at hl
  split at hl <;> try contradiction
  rename_i ti k n i off hti
  obtain ⟨ii, d, hk⟩ := htt.get hti
  obtain ⟨p, hp, hpn, rfl⟩ := hx.lp_inv
  split at hl
  · rename_i kf n' es hob
    split at hl <;> try contradiction
    rename_i hn; subst hn
    split at hl <;> try contradiction
    rename_i e he
    obtain ⟨q, hq, r1, r2, r3, r4, r5⟩ := live_row h.wr hob
    cases hp.symm.trans hq
    obtain ⟨g1, g2⟩ := r4 i e he
    obtain ⟨cv, k1, k2⟩ := run_loadVar_cells (P := P) hk g1 g2 hl
    exact ⟨cv, by simp [Instr.loadAt, Instr.sureAddr, k1], plc_rep k2⟩
  · rename_i n' es hob
    split at hl <;> try contradiction
    rename_i hn; subst hn
    split at hl <;> try contradiction
    rename_i e he
    obtain ⟨q, hq, r1, r2, r3, r4⟩ := froz_row h.wr hob
    cases hp.symm.trans hq
    obtain ⟨g1, g2⟩ := r4 i e he
    obtain ⟨cv, k1, k2⟩ := run_loadVar_cells (P := P) hk g1 g2 hl
    exact ⟨cv, by simp [Instr.loadAt, Instr.sureAddr, k1], k2.ofNo⟩
  · cases hl

theorem setCellsV_cells {e e' : V} {off : Nat} {xs : List V} (h : setCellsV e off xs = some e') (hxs : xs.all scal = true) : off + xs.length ≤ e.cells.length ∧ e'.cells.length = e.cells.length ∧
    ∀ (c : Nat) y, e'.cells[c]? = some y → (off ≤ c ∧ c < off + xs.length ∧ xs[c - off]? = some y) ∨ (¬ (off ≤ c ∧ c < off + xs.length) ∧ e.cells[c]? = some y) := by
  unfold setCellsV at h
  split at h
  · rename_i cs
    split at h <;> try contradiction
    rename_i hle
    cases h
    refine ⟨hle, by simp [V.cells]; omega, fun c y hy => ?_⟩
    simp only [V.cells] at hy ⊢
    by_cases h1 : c < off
    · rw [List.append_assoc, List.getElem?_append_left (by simp; omega)] at hy
      refine .inr ⟨by omega, ?_⟩
      rw [List.getElem?_take] at hy
      rwa [if_pos h1] at hy
    · by_cases h2 : c < off + xs.length
      · rw [List.append_assoc, List.getElem?_append_right (by simp; omega), List.getElem?_append_left (by simp; omega)] at hy
        refine .inl ⟨by omega, h2, ?_⟩
        rw [← hy]; congr 1; simp; omega
      · rw [List.getElem?_append_right (by simp; omega), List.getElem?_drop] at hy
        refine .inr ⟨by omega, ?_⟩
        rw [← hy]; congr 1; simp; omega
  · rename_i hna
    split at h <;> try contradiction
    rename_i x
    cases h
    have he : e.cells = [e] := by cases e <;> first | rfl | exact absurd rfl (hna _)
    have hx : e'.cells = [e'] := by
      simp at hxs
      cases e' <;> first | rfl | simp [scal] at hxs
    rw [he, hx]
    refine ⟨by simp, rfl, fun c y hy => .inl ?_⟩
    have hc : c = 0 := by have := (List.getElem?_eq_some_iff.1 hy).1; simp at this; exact this
    subst hc
    exact ⟨by omega, by simp, by simpa using hy⟩

theorem sets_ne {ob : Store} {ups : List (Key × Obj)} {k : Key} (h : ∀ u ∈ ups, u.1 ≠ k) : ob.sets ups k = ob k := by
  induction ups generalizing ob with
  | nil => rfl
  | cons u t ih => simp only [Store.sets]; rw [ih (fun x hx => h x (by simp [hx])), Store.set_ne _ _ (Ne.symm (h u (by simp)))]

theorem frzC_keys {get : Store} {x x' : V} {ups : List (Key × Obj)} (h : frzC get x = some (x', ups)) : ∀ u ∈ ups, u.1 ∈ x.ments := by
  unfold frzC at h
  split at h
  · cases h
  · split at h <;> simp at h; intro u hu; rw [h.2] at hu; cases hu
  · split at h
    · split at h <;> simp at h; intro u hu; rw [← h.2] at hu; simp at hu; subst hu; simp [V.ments]
    · split at h <;> simp at h; intro u hu; rw [h.2] at hu; cases hu
    · cases h
  · simp at h; intro u hu; rw [h.2] at hu; cases hu

theorem frzL_keys {get : Store} : ∀ {xs xs' : List V} {ups : List (Key × Obj)}, frzL get xs = some (xs', ups) → ∀ u ∈ ups, u.1 ∈ mentsL xs
  | [], _, _, h => by simp [frzL] at h; intro u hu; rw [h.2] at hu; cases hu
  | x :: xs, _, _, h => by
    simp only [frzL] at h
    split at h <;> try contradiction
    rename_i y u hy
    split at h <;> try contradiction
    rename_i ys us hys
    simp only [Option.some.injEq, Prod.mk.injEq] at h
    intro v hv
    rw [← h.2] at hv
    simp only [mentsL, List.mem_append] at hv ⊢
    exact hv.imp (frzC_keys hy v) (frzL_keys hys v)

theorem frz_keys {get : Store} {x x' : V} {ups : List (Key × Obj)} (h : frz get x = some (x', ups)) : ∀ u ∈ ups, u.1 ∈ x.ments := by
  unfold frz at h
  split at h
  · obtain ⟨r, hr, e⟩ := Option.map_eq_some_iff.1 h
    simp only [Prod.mk.injEq] at e
    rw [← e.2]
    simp only [V.ments]
    exact frzL_keys hr
  · exact frzC_keys h

/-- A store: the object is changed in its place; what a row is given is no longer written. -/
theorem store_sound (htt : TTok P tt) (h : Inv c F pl st a w) {t : TypeId} {x y : V} {cx cy : Value} (hx : RepV F (memOf w) pl x cx) (hy : RepV F (memOf w) pl y cy) {ups : List (Key × Obj)} (hst : storeF tt st.ob t x y = some ups) :
    ∃ F' w', (Instr.storeAt t cx cy).run P w = .ok () w' ∧ Inv c F' pl { st with ob := st.ob.sets ups } a w' := by
  unfold storeF at hst
  split at hst <;> try contradiction
  rename_i ti k n i off hti
  obtain ⟨ii, d, hk⟩ := htt.get hti
  obtain ⟨p, hp, hpn, rfl⟩ := hx.lp_inv
  split at hst <;> try contradiction
  rename_i kf n' es hob
  split at hst <;> try contradiction
  rename_i hcond
  obtain ⟨rfl, hok, hkm⟩ := hcond
  obtain ⟨ok1, ok2⟩ := okE_iff.1 hok
  split at hst <;> try contradiction
  rename_i e he
  split at hst <;> try contradiction
  rename_i y' us hy'
  split at hst <;> try contradiction
  rename_i e' he'
  simp only [Option.some.injEq] at hst
  subst hst
  -- what is stored, perhaps no longer written
  have key : ∃ F', Inv c F' pl { st with ob := st.ob.sets us } a w ∧ y'.cells.length = y.cells.length ∧ y'.cells.all scal = true ∧ RepV F' (memOf w) (Obj.plc kf pl) y' cy ∧ (st.ob.sets us) k = st.ob k := by
    unfold keepOrFrz at hy'
    split at hy'
    · rename_i hkf
      obtain ⟨F', j1, j2, j3, j4, j5, j6⟩ := frz_sound (cur := st.ob) h (fun k => .inl rfl) hy ok2 hy'
      refine ⟨F', j1, j4, j5, by simpa [Obj.plc, hkf] using j6, sets_ne (fun u hu => ?_)⟩
      intro e; exact hkm (e ▸ frz_keys hy' u hu)
    · rename_i hkf
      simp only [Option.some.injEq, Prod.mk.injEq] at hy'
      obtain ⟨rfl, rfl⟩ := hy'
      exact ⟨F, h, rfl, ok2, by simpa [Obj.plc, hkf] using hy, rfl⟩
  obtain ⟨F', hI, g1, g2, g3, g4⟩ := key
  have hob' : ({ st with ob := st.ob.sets us } : St).ob k = some (.arr kf n' es) := by rw [← hob]; exact g4
  obtain ⟨q, hq, r1, r2, r3, r4, r5⟩ := live_row hI.wr hob'
  cases hp.symm.trans hq
  obtain ⟨s1, s2, s3⟩ := setCellsV_cells he' g2
  obtain ⟨vc, v1, v2, v3⟩ := rep_cells g3 g2
  have hi := (List.getElem?_eq_some_iff.1 he).1
  have hel := (r4 i e he).1
  have hin : ∀ j, j < vc.toList.length → p.has p.b (p.base + i * n' + off + j) := by
    intro j hj
    have := pl_has (p := p) hpn r3 hi (c := off + j) (by simp at hj; omega)
    rwa [← Nat.add_assoc] at this
  have hone : ∀ v ∈ vc.toList, v.oneCell' = true := by
    intro v hv
    obtain ⟨j, hj, e⟩ := List.getElem_of_mem hv
    have hj' : j < vc.size := by simpa using hj
    have hz : y'.cells[j]? = some y'.cells[j] := List.getElem?_eq_getElem (by omega)
    have := (rep_one (v3 j _ hj' hz) (all_get g2 hz)).1
    simp at e; rw [← e]; exact this
  have hrun := run_storeCells_cells (P := P) p.b (p.base + i * n' + off) vc.toList 0 w (fun j hj => (r5 _ (by simpa using hin j hj)).1) (fun j hj => by
    have := (r5 _ (hin j hj)).2.1
    simpa [frozOf] using this) hone
  simp only [Nat.add_zero] at hrun
  let w' := w.setCells p.b (p.base + i * n' + off) vc.toList
  have hsome : ∀ j, j < vc.toList.length → (memOf w p.b (p.base + i * n' + off + j)).isSome := fun j hj => (r5 _ (hin j hj)).1
  refine ⟨F', w', ?_, ?_⟩
  · have hsz : ¬ (cy.cells.size ≠ ti.size) := by rw [v1, v2]; omega
    rw [← v1] at hrun
    simp only [Instr.storeAt, Instr.sureAddr, Sem.run_bind, Sem.run_pure, Result.andThen, storeVar, hk.sizeOf]
    rw [if_neg hsz]
    rw [v1] at hrun ⊢
    exact hrun
  · have := hI.rewrite hob' hp (w' := w') (same_setCells hin) (fun o ho => setCells_exists hsome ⟨(r5 o ho).1, (r5 o ho).2.1⟩) (es' := es.set i e') (by simpa using r3) (fun j z hz => by
      rw [List.getElem?_set] at hz
      split at hz
      · rename_i hij
        subst hij
        have hz : e' = z := by simpa [hi] using hz
        subst hz
        refine ⟨by rw [s2]; exact hel, fun c u hu => ?_⟩
        rcases s3 c u hu with ⟨t1, t2, t3⟩ | ⟨t1, t2⟩
        · have t4 := (List.getElem?_eq_some_iff.1 t3).1
          rw [← v2] at t4
          refine ⟨all_get g2 t3, vc[c - off], ?_, v3 (c - off) u t4 t3⟩
          have := setCells_in hsome (j := c - off) (v := vc[c - off]) (by simp [t4])
          rwa [show p.base + i * n' + off + (c - off) = p.base + i * n' + c by omega] at this
        · obtain ⟨u1, cv, u2, u3⟩ := (r4 i e he).2 c u t2
          refine ⟨u1, cv, ?_, u3⟩
          rw [← u2]
          refine setCells_out ?_
          have : vc.toList.length = y'.cells.length := by simpa using v2
          omega
      · rename_i hij
        obtain ⟨u1, u2⟩ := r4 j z hz
        refine ⟨u1, fun c u hu => ?_⟩
        obtain ⟨t1, cv, t2, t3⟩ := u2 c u hu
        refine ⟨t1, cv, ?_, t3⟩
        rw [← t2]
        have hc := (List.getElem?_eq_some_iff.1 hu).1
        rw [u1] at hc
        refine setCells_out ?_
        have hl : vc.toList.length = y'.cells.length := by simpa using v2
        rw [hel] at s1
        rcases Nat.lt_or_ge j i with g | g
        · left
          have := Nat.mul_le_mul_right n' (show j + 1 ≤ i by omega)
          rw [Nat.add_mul] at this; omega
        · right
          have := Nat.mul_le_mul_right n' (show i + 1 ≤ j by omega)
          rw [Nat.add_mul] at this; omega)
    rw [Store.sets_append]
    exact this
end
end Go.Eng

/- A machine of values for the program's code, part 11: rows that are made, copied and cleared; any operation. -/
namespace Go.Eng
open Go.RowKit

theorem fold_put (off : Nat) (vc ca : Array Value) (h : off + vc.size ≤ ca.size) : (vc.zipIdx.foldl (fun cs (c, j) => cs.setIfInBounds (off + j) c) ca).size = ca.size ∧
    ∀ (j : Nat), (vc.zipIdx.foldl (fun cs (c, j) => cs.setIfInBounds (off + j) c) ca)[j]? = if off ≤ j ∧ j < off + vc.size then vc[j - off]? else ca[j]? := by
  have gen : ∀ (l : List Value) (s : Nat) (cur : Array Value), off + s + l.length ≤ cur.size →
      ((l.zipIdx s).foldl (fun cs (c, j) => cs.setIfInBounds (off + j) c) cur).size = cur.size ∧
      ∀ (j : Nat), ((l.zipIdx s).foldl (fun cs (c, j) => cs.setIfInBounds (off + j) c) cur)[j]? = if off + s ≤ j ∧ j < off + s + l.length then l[j - (off + s)]? else cur[j]? := by
    intro l
    induction l with
    | nil => intro s cur _; exact ⟨rfl, fun j => by simp; omega⟩
    | cons y t iht =>
      intro s cur hle
      simp only [List.zipIdx_cons, List.foldl_cons]
      simp only [List.length_cons] at hle
      obtain ⟨e1, e2⟩ := iht (s + 1) (cur.setIfInBounds (off + s) y) (by simp; omega)
      refine ⟨by rw [e1]; simp, fun j => ?_⟩
      rw [e2]
      by_cases hj : j = off + s
      · subst hj
        have hlt : off + s < cur.size := by omega
        rw [if_neg (by omega), if_pos (by simp)]
        simp [hlt]
      · by_cases hr : off + (s + 1) ≤ j ∧ j < off + (s + 1) + t.length
        · rw [if_pos hr, if_pos (by simp; omega)]
          rw [show j - (off + s) = (j - (off + (s + 1))) + 1 by omega]
          simp
        · rw [if_neg hr, if_neg (by simp; omega), Array.getElem?_setIfInBounds_ne (by omega)]
  have := gen vc.toList 0 ca (by simp; omega)
  rw [← Array.foldl_toList, Array.toList_zipIdx]
  simpa using this

theorem madeCells_get {z : Array Value} {n q : Nat} (h : q < n) : (madeCells z n)[q]? = some (z[q % z.size]!) := by
  simp [madeCells, h]

section
variable {P : Program} {tt : TT} {c : Ctx} {F : Cells} {pl : Places} {st : St} {a : Act} {w : World}

theorem made_rep {m : Mem} {pq : Places} {t : TypeId} {ti : TI} {i : TypeInfo} {d : TypeDesc} (hk : TOk P t ti i d) {N : Nat} {j c : Nat} {y : V} (hj : j * ti.size + ti.size ≤ N) (hy : ti.zeroV.cells[c]? = some y) :
    scal y = true ∧ ∃ cv, (madeCells ti.zeroVal.cells N)[j * ti.size + c]? = some cv ∧ RepV F m pq y cv := by
  obtain ⟨z1, z2, z3, z4, z5⟩ := zeroV_cells hk
  obtain ⟨cv, k1, k2⟩ := z5 c y hy
  have hc := (List.getElem?_eq_some_iff.1 hy).1
  rw [z1] at hc
  refine ⟨all_get z2 hy, cv, ?_, by rw [k2]; exact .lit⟩
  rw [madeCells_get (by omega), z4]
  have : (j * ti.size + c) % ti.size = c := by rw [Nat.mul_comm, Nat.mul_add_mod]; exact Nat.mod_eq_of_lt hc
  rw [this, getElem!_def, k1]

theorem makeSlice_sound (htt : TTok P tt) (h : Inv c F pl st a w) {nk : Key} (hk0 : nk.1 ≠ 0) {t : TypeId} {l r : V} {cl cr : Value} (hl : RepV F (memOf w) pl l cl) (hr : RepV F (memOf w) pl r cr) {v : V} {ups : List (Key × Obj)}
    (hm : makeSliceF tt nk st.ob t l r = some (v, ups)) :
    ∃ pl' w' cv, (Instr.makeSlice t cl cr).run P w = .ok cv w' ∧ Inv c F pl' { st with ob := st.ob.sets ups } a w' ∧ RepV F (memOf w') pl' v cv := by
  unfold makeSliceF at hm
  split at hm <;> try contradiction
  rename_i e _ _ _ hts
  obtain ⟨i, d, hk⟩ := htt.get hts
  split at hm <;> try contradiction
  rename_i ei k1 l0 k2 c0 hte
  obtain ⟨i2, d2, hk2⟩ := htt.get hte
  split at hm <;> try contradiction
  rename_i hc
  obtain ⟨h0, hnk, hl0, hlc, hc63, hby⟩ := hc
  simp only [Option.some.injEq, Prod.mk.injEq] at hm
  obtain ⟨rfl, rfl⟩ := hm
  cases hl.lit_inv; cases hr.lit_inv
  have hrun := run_make (P := P) w t e i2 ei.zeroVal hk.slice hk2.info hk2.zero k1 k2 l0 c0 hl0 hlc (by rw [hk2.bytes, Int.mul_comm]; exact hby) (by omega)
  rw [hk2.size] at hrun
  obtain ⟨z1, z2, z3, z4, z5⟩ := zeroV_cells hk2
  have hmk := h.make hk0 hnk (kfT ei.td) h0 (C := c0.toNat) (es := List.replicate l0.toNat ei.zeroV) (by simp; omega) (cs := madeCells ei.zeroVal.cells (c0.toNat * ei.size)) (by simp [size_madeCells]) e (fun j x hx => by
    have hj := (List.getElem?_eq_some_iff.1 hx).1
    simp only [List.length_replicate] at hj
    have hx' : x = ei.zeroV := by
      rw [List.getElem?_replicate, if_pos hj] at hx; exact (Option.some.inj hx).symm
    subst hx'
    exact ⟨z1, fun c y hy => made_rep hk2 (by
      have := Nat.mul_le_mul_right ei.size (show j + 1 ≤ c0.toNat by omega)
      rw [Nat.add_mul] at this; omega) hy⟩)
  exact ⟨_, _, _, hrun, hmk, .ls (Places.set_self _ _ _) rfl (by omega) (by simp) (fun _ => by simp)⟩

/-- The parts of a row that is written out. -/
theorem putParts_sound {n : Nat} {ρ : Operand → Value} {μ : Operand → V} : ∀ (parts : List (Nat × Operand)) {F : Cells} {cur : Store} (_ : Inv c F pl { st with ob := cur } a w) (_ : Frozen st.ob cur) {es : List V} {ca : Array Value} {es' : List V} {ups : List (Key × Obj)},
    (∀ x, RepV F (memOf w) pl (μ x) (ρ x)) → ca.size = es.length * n →
    (∀ (j : Nat) x, es[j]? = some x → x.cells.length = n ∧ ∀ (c : Nat) y, x.cells[c]? = some y → scal y = true ∧ ∃ cv, ca[j * n + c]? = some cv ∧ RepV F (memOf w) noPl y cv) →
    putParts n st.ob es (parts.map fun p => (p.1, μ p.2)) = some (es', ups) →
    ∃ F' ca', Instr.fill (fun i => some (i * n, n)) ca (parts.map fun p => (p.1, ρ p.2)) = some ca' ∧ Inv c F' pl { st with ob := cur.sets ups } a w ∧ es'.length = es.length ∧ ca'.size = es'.length * n ∧
      (∀ (j : Nat) x, es'[j]? = some x → x.cells.length = n ∧ ∀ (c : Nat) y, x.cells[c]? = some y → scal y = true ∧ ∃ cv, ca'[j * n + c]? = some cv ∧ RepV F' (memOf w) noPl y cv) := by
  intro parts
  induction parts with
  | nil =>
    intro F cur h hcur es ca es' ups _ hs hr hp
    simp only [List.map_nil, putParts, Option.some.injEq, Prod.mk.injEq] at hp
    obtain ⟨rfl, rfl⟩ := hp
    exact ⟨F, ca, rfl, h, rfl, hs, hr⟩
  | cons p ps ih =>
    intro F cur h hcur es ca es' ups hρ hs hr hp
    obtain ⟨i, x⟩ := p
    simp only [List.map_cons, putParts] at hp
    split at hp <;> try contradiction
    rename_i hc
    obtain ⟨hi, hok⟩ := hc
    obtain ⟨ok1, ok2⟩ := okE_iff.1 hok
    split at hp <;> try contradiction
    rename_i x' u hx'
    split at hp <;> try contradiction
    rename_i es2 us hrest
    simp only [Option.some.injEq, Prod.mk.injEq] at hp
    obtain ⟨rfl, rfl⟩ := hp
    obtain ⟨F1, j1, j2, j3, j4, j5, j6⟩ := frz_sound h hcur (hρ x) ok2 hx'
    obtain ⟨vc, v1, v2, v3⟩ := rep_cells j6 j5
    have hv : vc.size = n := by rw [v2, j4, ok1]
    have hfit : i * n + vc.size ≤ ca.size := by
      rw [hv, hs]
      have := Nat.mul_le_mul_right n (show i + 1 ≤ es.length by omega)
      rw [Nat.add_mul] at this; omega
    obtain ⟨f1, f2⟩ := fold_put (i * n) vc ca hfit
    have hF1 : ∀ b o, F b o → F1 b o ∧ memOf w b o = memOf w b o := fun b o hb => ⟨j3 b o hb, rfl⟩
    obtain ⟨F2, ca2, g1, g2, g3, g4, g5⟩ := ih j1 j2 (es := es.set i x') (ca := vc.zipIdx.foldl (fun cs (c, j) => cs.setIfInBounds (i * n + j) c) ca) (fun y => (hρ y).mono hF1 (fun _ _ h => h)) (by rw [f1]; simpa using hs) (fun j y hy => by
      rw [List.getElem?_set] at hy
      by_cases hij : i = j
      · subst hij
        have hy : x' = y := by simpa [hi] using hy
        subst hy
        refine ⟨by rw [j4, ok1], fun c z hz => ?_⟩
        have hcz := (List.getElem?_eq_some_iff.1 hz).1
        have hcz' : c < vc.size := by omega
        refine ⟨all_get j5 hz, vc[c], ?_, v3 c z hcz' hz⟩
        rw [f2, if_pos ⟨by omega, by omega⟩]
        simp [hcz']
      · rw [if_neg hij] at hy
        obtain ⟨r1, r2⟩ := hr j y hy
        refine ⟨r1, fun c z hz => ?_⟩
        obtain ⟨s1, cv, s2, s3⟩ := r2 c z hz
        refine ⟨s1, cv, ?_, s3.mono hF1 (fun _ _ h => h)⟩
        have hcz := (List.getElem?_eq_some_iff.1 hz).1
        rw [f2, if_neg ?_]
        · exact s2
        · rw [hv]
          rcases Nat.lt_or_ge j i with g | g
          · have := Nat.mul_le_mul_right n (show j + 1 ≤ i by omega)
            rw [Nat.add_mul] at this; omega
          · have := Nat.mul_le_mul_right n (show i + 1 ≤ j by omega)
            rw [Nat.add_mul] at this; omega) hrest
    refine ⟨F2, ca2, ?_, by rw [Store.sets_append]; exact g2, by rw [g3]; simp, g4, g5⟩
    simp only [List.map_cons, Instr.fill, v1]
    rw [if_neg (by simp; omega)]
    exact g1

theorem buildSlice_sound (htt : TTok P tt) (h : Inv c F pl st a w) {nk : Key} (hk0 : nk.1 ≠ 0) {t : TypeId} {len : Nat} {parts : Array (Nat × Operand)} {ρ : Operand → Value} {μ : Operand → V} (hρ : ∀ x, RepV F (memOf w) pl (μ x) (ρ x)) {v : V} {ups : List (Key × Obj)}
    (hnm : ∀ p ∈ parts.toList, nk ∉ (μ p.2).ments) (hm : buildSliceF tt nk st.ob t len (parts.toList.map fun p => (p.1, μ p.2)) = some (v, ups)) :
    ∃ F' pl' w' cv, (Instr.buildSlice t len (parts.map fun (i, x) => (i, ρ x))).run P w = .ok cv w' ∧ Inv c F' pl' { st with ob := st.ob.sets ups } a w' ∧ RepV F' (memOf w') pl' v cv := by
  unfold buildSliceF at hm
  split at hm <;> try contradiction
  rename_i e _ _ _ hts
  obtain ⟨i, d, hk⟩ := htt.get hts
  split at hm <;> try contradiction
  rename_i ei hte
  obtain ⟨i2, d2, hk2⟩ := htt.get hte
  split at hm <;> try contradiction
  rename_i hc
  obtain ⟨h0, hlen, hnk⟩ := hc
  split at hm <;> try contradiction
  rename_i es us hput
  simp only [Option.some.injEq, Prod.mk.injEq] at hm
  obtain ⟨rfl, rfl⟩ := hm
  obtain ⟨z1, z2, z3, z4, z5⟩ := zeroV_cells hk2
  have hst0 : ({ st with ob := st.ob } : St) = st := rfl
  obtain ⟨F1, ca1, g1, g2, g3, g4, g5⟩ := putParts_sound (st := st) parts.toList (cur := st.ob) (by rw [hst0]; exact h) (fun k => .inl rfl) (es := List.replicate len ei.zeroV) (ca := madeCells ei.zeroVal.cells (len * ei.size)) hρ (by simp [size_madeCells])
    (fun j x hx => by
      have hj := (List.getElem?_eq_some_iff.1 hx).1
      simp only [List.length_replicate] at hj
      have hx' : x = ei.zeroV := by
        rw [List.getElem?_replicate, if_pos hj] at hx; exact (Option.some.inj hx).symm
      subst hx'
      exact ⟨z1, fun c y hy => made_rep hk2 (by
        have := Nat.mul_le_mul_right ei.size (show j + 1 ≤ len by omega)
        rw [Nat.add_mul] at this; omega) hy⟩) hput
  have hkeys : ∀ u ∈ us, u.1 ≠ nk := by
    have gen : ∀ (ps : List (Nat × V)) {es es' : List V} {us : List (Key × Obj)}, (∀ p ∈ ps, nk ∉ p.2.ments) → putParts ei.size st.ob es ps = some (es', us) → ∀ u ∈ us, u.1 ≠ nk := by
      intro ps
      induction ps with
      | nil => intro es es' us _ h; simp only [putParts, Option.some.injEq, Prod.mk.injEq] at h; intro u hu; rw [← h.2] at hu; cases hu
      | cons p ps ih =>
        intro es es' us hn h
        obtain ⟨i, x⟩ := p
        simp only [putParts] at h
        split at h <;> try contradiction
        split at h <;> try contradiction
        rename_i x' u hx'
        split at h <;> try contradiction
        rename_i es2 us2 hr
        simp only [Option.some.injEq, Prod.mk.injEq] at h
        obtain ⟨_, rfl⟩ := h
        intro v hv
        rcases List.mem_append.1 hv with hv | hv
        · intro e; exact hn (i, x) (by simp) (e ▸ frz_keys hx' v hv)
        · exact ih (fun p hp => hn p (by simp [hp])) hr v hv
    exact gen _ (fun p hp => by
      obtain ⟨q, hq, rfl⟩ := List.mem_map.1 hp
      exact hnm q hq) hput
  have hesl : es.length = len := by rw [g3]; simp
  have hmk := g2.make (k := nk) hk0 (by show st.ob.sets us nk = none; rw [sets_ne hkeys]; exact hnk) true h0 (C := len) (es := es) (by omega) (cs := ca1) (by rw [g4, hesl]) e (fun j x hx => by
    obtain ⟨r1, r2⟩ := g5 j x hx
    exact ⟨r1, fun c y hy => r2 c y hy⟩)
  refine ⟨F1, _, _, .slice (some ⟨w.heap.size, 0, none⟩) len len, ?_, by rw [Store.sets_append]; exact hmk, .ls (Places.set_self _ _ _) rfl (Nat.le_refl _) (by simp) (fun _ => by simp)⟩
  have hpl : (parts.map fun x => (x.1, ρ x.2)).toList = parts.toList.map fun p => (p.1, ρ p.2) := by simp
  have hbig : ¬ (len * ei.size > 2 ^ 24) := by omega
  have hmade : ∀ z : Array Value, (Array.range (len * ei.size)).map (z[· % z.size]!) = madeCells z (len * ei.size) := fun _ => rfl
  simp only [Instr.buildSlice, Sem.run_bind, run_underlying hk.slice, Result.andThen, hk2.sizeOf]
  rw [if_neg hbig]
  by_cases hz : len * ei.size = 0
  · have hm0 : ∀ z, madeCells z 0 = #[] := fun z => by simp [madeCells]
    have hm1 : (Array.range 0).map ((#[] : Array Value)[· % (#[] : Array Value).size]!) = #[] := hm0 _
    rw [hz, hm0] at g1
    simp only [hz, if_true, Sem.run_bind, Sem.run_pure, Result.andThen, hm1, hpl, g1]
    rfl
  · simp [hz, hk2.zeroValue, hmade, g1, newRow]

/-- Some elements of a row are written anew. -/
theorem splice_sound (h : Inv c F pl st a w) {k : Key} {n : Nat} {es : List V} {p : Pl} (hob : st.ob k = some (.arr true n es)) (hp : pl k = some p) {i : Nat} {xs : List V} (hi : i + xs.length ≤ es.length) {news : List Value} (hl : news.length = xs.length * n)
    (hlen : ∀ (j : Nat) x, xs[j]? = some x → x.cells.length = n)
    (hnews : ∀ (j : Nat) x (c : Nat) y, xs[j]? = some x → x.cells[c]? = some y → scal y = true ∧ ∃ cv, news[j * n + c]? = some cv ∧ RepV F (memOf w) noPl y cv) :
    Inv c F pl { st with ob := st.ob.set k (.arr true n (es.take i ++ xs ++ es.drop (i + xs.length))) } a (w.setCells p.b (p.base + i * n) news) ∧
      (∀ j, j < news.length → (memOf w p.b (p.base + i * n + j)).isSome ∧ ¬ frozOf w p.b (p.base + i * n + j)) := by
  obtain ⟨q, hq, r1, r2, r3, r4, r5⟩ := live_row h.wr hob
  cases hp.symm.trans hq
  have hin : ∀ j, j < news.length → p.has p.b (p.base + i * n + j) := by
    intro j hj
    rw [hl] at hj
    refine ⟨rfl, by omega, ?_⟩
    have := Nat.mul_le_mul_right n (show i + xs.length ≤ p.C by omega)
    rw [Nat.add_mul] at this
    rw [r1]; omega
  have hsome : ∀ j, j < news.length → (memOf w p.b (p.base + i * n + j)).isSome := fun j hj => (r5 _ (hin j hj)).1
  refine ⟨?_, fun j hj => ⟨(r5 _ (hin j hj)).1, (r5 _ (hin j hj)).2.1⟩⟩
  refine h.rewrite hob hp (same_setCells hin) (fun o ho => setCells_exists hsome ⟨(r5 o ho).1, (r5 o ho).2.1⟩) (by simp; omega) (fun j x hx => ?_)
  have old : ∀ x, es[j]? = some x → (j < i ∨ i + xs.length ≤ j) → x.cells.length = n ∧ ∀ (c : Nat) y, x.cells[c]? = some y → scal y = true ∧
      ∃ cv, memOf (w.setCells p.b (p.base + i * n) news) p.b (p.base + j * n + c) = some cv ∧ RepV F (memOf w) (Obj.plc true pl) y cv := by
    intro x hx hj
    obtain ⟨u1, u2⟩ := r4 j x hx
    refine ⟨u1, fun c y hy => ?_⟩
    obtain ⟨t1, cv, t2, t3⟩ := u2 c y hy
    refine ⟨t1, cv, ?_, t3⟩
    rw [← t2]
    have hc := (List.getElem?_eq_some_iff.1 hy).1
    rw [u1] at hc
    refine setCells_out ?_
    rw [hl]
    rcases hj with g | g
    · left
      have := Nat.mul_le_mul_right n (show j + 1 ≤ i by omega)
      rw [Nat.add_mul] at this; omega
    · right
      have := Nat.mul_le_mul_right n g
      rw [Nat.add_mul] at this; omega
  by_cases h1 : j < i
  · rw [List.append_assoc, List.getElem?_append_left (by simp; omega), List.getElem?_take, if_pos h1] at hx
    exact old x hx (.inl h1)
  · by_cases h2 : j < i + xs.length
    · rw [List.append_assoc, List.getElem?_append_right (by simp; omega), List.getElem?_append_left (by simp; omega)] at hx
      have hji : j - (es.take i).length = j - i := by simp; omega
      rw [hji] at hx
      refine ⟨hlen _ x hx, fun c y hy => ?_⟩
      obtain ⟨t1, cv, t2, t3⟩ := hnews _ x c y hx hy
      refine ⟨t1, cv, ?_, by simpa [Obj.plc] using t3⟩
      have := setCells_in hsome t2
      rw [← this]; congr 1
      rw [Nat.sub_mul]
      have := Nat.mul_le_mul_right n (show i ≤ j by omega)
      omega
    · rw [List.getElem?_append_right (by simp; omega), List.getElem?_drop] at hx
      refine old x ?_ (.inr (by omega))
      rw [← hx]; congr 1; simp; omega

theorem copy_sound (h : Inv c F pl st a w) {t tx ty e : TypeId} {ei : TI} {i : TypeInfo} {d : TypeDesc} (ht : P.underlying t = some (.slice e)) (he : TOk P e ei i d) (hn : 0 < ei.size)
    (hk : ∃ e', P.underlying tx = some (.slice e')) {s x : V} {cs cx : Value} (hs : RepV F (memOf w) pl s cs) (hx : RepV F (memOf w) pl x cx) {xs : List V}
    (hxs : srcV st.ob ei.size false x = some xs) {v : V} {ups : List (Key × Obj)} (hc : copyF ei st.ob xs s = some (v, ups)) :
    ∃ w' cv, (Builtin.copy_ #[t, tx] ty #[cs, cx]).run P w = .ok cv w' ∧ Inv c F pl { st with ob := st.ob.sets ups } a w' ∧ RepV F (memOf w') pl v cv := by
  obtain ⟨news, hsrc, hlen, hnews, hfc⟩ := src_sound h.wr hn (.inl ⟨rfl, hk⟩) hx hxs
  unfold copyF at hc
  split at hc <;> try contradiction
  rename_i k n i0 len
  split at hc <;> try contradiction
  rename_i n' es hob
  split at hc <;> try contradiction
  rename_i hcond
  obtain ⟨rfl, rfl, hle⟩ := hcond
  simp only [Option.some.injEq, Prod.mk.injEq] at hc
  obtain ⟨rfl, rfl⟩ := hc
  obtain ⟨p, ad, cap, hp, hpn, hlc, hic, had, rfl⟩ := hs.ls_inv
  have hm : Nat.min xs.length len ≤ xs.length := Nat.min_le_left _ _
  have hm2 : Nat.min xs.length len ≤ len := Nat.min_le_right _ _
  generalize hmm : Nat.min xs.length len = m at *
  have hxl : (xs.take m).length = m := by simp; omega
  obtain ⟨g1, g2⟩ := splice_sound h hob hp (i := i0) (xs := xs.take m) (by rw [hxl]; omega) (news := news.take (m * ei.size)) (by
      rw [hxl, List.length_take, hsrc.newsLen]
      exact Nat.min_eq_left (Nat.mul_le_mul_right _ hm))
    (fun j x hx => by
      rw [List.getElem?_take] at hx
      split at hx
      · exact hlen j x hx
      · cases hx) (fun j x c y hx hy => by
      rw [List.getElem?_take] at hx
      split at hx
      · rename_i hj
        obtain ⟨t1, cv, t2, t3⟩ := hnews j x c y hx hy
        refine ⟨t1, cv, ?_, t3⟩
        have hcc := (List.getElem?_eq_some_iff.1 hy).1
        rw [hlen j x hx] at hcc
        have := Nat.mul_le_mul_right ei.size (show j + 1 ≤ m by omega)
        rw [Nat.add_mul] at this
        rw [List.getElem?_take, if_pos (by omega)]
        exact t2
      · cases hx)
  rw [hxl] at g1
  have hone : ∀ v ∈ news.take (m * ei.size), v.oneCell' = true := fun v hv => hsrc.one v (List.mem_of_mem_take hv)
  have hst := run_storeCells_cells (P := P) p.b (p.base + i0 * ei.size) (news.take (m * ei.size)) 0 w (fun j hj => by have := (g2 j hj).1; rwa [Nat.add_zero]) (fun j hj => by
    have := (g2 j hj).2
    simpa [frozOf] using this) hone
  simp only [Nat.add_zero] at hst
  have hsz : (P.info? e).map (·.size) = some ei.size := by rw [he.info]; simp [he.size]
  by_cases hcap : cap = 0
  · have hm0 : m = 0 := by omega
    subst hm0
    simp only [Nat.zero_mul, List.take_zero] at g1 hst
    refine ⟨w, .int .i64 0, ?_, by simpa [World.setCells, Store.sets] using g1, .lit⟩
    have h0 := hfc rfl 0 (Nat.zero_le _)
    simp only [Nat.zero_mul, List.take_zero] at h0
    simp [Builtin.copy_, run_underlying ht, hsrc.len, hmm, sizeOf, typeInfo, he.info, he.size, h0, storeCells, goInt]
  · have had' := had hcap
    subst had'
    refine ⟨_, .int .i64 m, ?_, g1, .lit⟩
    have h0 := hfc rfl m hm
    simp [Builtin.copy_, run_underlying ht, hsrc.len, hmm, sizeOf, typeInfo, he.info, he.size, h0, hst, goInt]

theorem clear_sound (h : Inv c F pl st a w) {t ty e : TypeId} {ei : TI} {i : TypeInfo} {d : TypeDesc} (ht : P.underlying t = some (.slice e)) (he : TOk P e ei i d) {s : V} {cs : Value} (hs : RepV F (memOf w) pl s cs)
    {ups : List (Key × Obj)} (hc : clearF ei st.ob s = some ups) :
    ∃ w', (Builtin.clear_ #[t] ty #[cs]).run P w = .ok (.tuple #[]) w' ∧ Inv c F pl { st with ob := st.ob.sets ups } a w' := by
  unfold clearF at hc
  split at hc <;> try contradiction
  · rename_i k n i0 len
    split at hc <;> try contradiction
    rename_i n' es hob
    split at hc <;> try contradiction
    rename_i hcond
    obtain ⟨rfl, rfl, hle⟩ := hcond
    simp only [Option.some.injEq] at hc
    subst hc
    obtain ⟨p, ad, cap, hp, hpn, hlc, hic, had, rfl⟩ := hs.ls_inv
    obtain ⟨z1, z2, z3, z4, z5⟩ := zeroV_cells he
    have hzc : ∀ q, q < len * ei.size → (madeCells ei.zeroVal.cells (len * ei.size)).toList[q]? = some (ei.zeroVal.cells[q % ei.size]!) := by
      intro q hq
      have := madeCells_get (z := ei.zeroVal.cells) hq
      rw [z4] at this
      simpa using this
    obtain ⟨g1, g2⟩ := splice_sound h hob hp (i := i0) (xs := List.replicate len ei.zeroV) (by simpa using hle) (news := (madeCells ei.zeroVal.cells (len * ei.size)).toList) (by simp [size_madeCells])
      (fun j x hx => by
        have hj := (List.getElem?_eq_some_iff.1 hx).1
        simp only [List.length_replicate] at hj
        rw [List.getElem?_replicate, if_pos hj] at hx; cases hx; exact z1) (fun j x c y hx hy => by
        have hj := (List.getElem?_eq_some_iff.1 hx).1
        simp only [List.length_replicate] at hj
        rw [List.getElem?_replicate, if_pos hj] at hx; cases hx
        obtain ⟨t1, cv, t2, t3⟩ := made_rep (F := F) (m := memOf w) he (N := len * ei.size) (j := j) (by
          have := Nat.mul_le_mul_right ei.size (show j + 1 ≤ len by omega)
          rw [Nat.add_mul] at this; omega) hy
        exact ⟨t1, cv, by simpa using t2, t3⟩)
    simp only [List.length_replicate] at g1
    have hzz : Builtin.zeroCells ei.zeroVal.cells len = madeCells ei.zeroVal.cells (len * ei.size) := by
      simp [Builtin.zeroCells, madeCells, z4]
    have hone : ∀ v ∈ (madeCells ei.zeroVal.cells (len * ei.size)).toList, v.oneCell' = true := by
      intro v hv
      obtain ⟨q, hq, e⟩ := List.getElem_of_mem hv
      simp only [Array.length_toList, size_madeCells] at hq
      obtain ⟨j, cc, hj, hcc, rfl⟩ := divMod (show 0 < ei.size by
        rcases Nat.eq_zero_or_pos ei.size with h0 | h0
        · rw [h0] at hq; simp at hq
        · exact h0) hq
      have hy := List.getElem?_eq_getElem (l := ei.zeroV.cells) (i := cc) (by omega)
      obtain ⟨t1, cv, t2, t3⟩ := made_rep (pq := noPl) (F := F) (m := memOf w) he (N := len * ei.size) (j := j) (by
          have := Nat.mul_le_mul_right ei.size (show j + 1 ≤ len by omega)
          rw [Nat.add_mul] at this; omega) hy
      obtain ⟨s1, s2⟩ := Array.getElem?_eq_some_iff.1 t2
      have : v = cv := by rw [← e, ← s2]; simp
      rw [this]; exact (rep_one t3 t1).1
    have hst := run_storeCells_cells (P := P) p.b (p.base + i0 * ei.size) (madeCells ei.zeroVal.cells (len * ei.size)).toList 0 w (fun j hj => by have := (g2 j hj).1; rwa [Nat.add_zero]) (fun j hj => by
      have := (g2 j hj).2
      simpa [frozOf] using this) hone
    simp only [Nat.add_zero] at hst
    by_cases hl0 : len = 0
    · subst hl0
      refine ⟨w, ?_, by simpa [World.setCells, Store.sets, madeCells, Array.range_zero'] using g1⟩
      simp [Builtin.clear_, run_underlying ht]
    · have had' := had (by omega)
      subst had'
      refine ⟨_, ?_, g1⟩
      cases len with
      | zero => exact absurd rfl hl0
      | succ len => simp [Builtin.clear_, run_underlying ht, he.zeroValue, hzz, hst]
  · cases hs.lit_inv
    simp only [Option.some.injEq] at hc; subst hc
    exact ⟨w, by simp [Builtin.clear_, run_underlying ht], h⟩
  · obtain ⟨ad, rfl⟩ := hs.e0_inv
    simp only [Option.some.injEq] at hc; subst hc
    cases ad <;> exact ⟨w, by simp [Builtin.clear_, run_underlying ht], h⟩
end
end Go.Eng

/- A machine of values for the program's code, part 12: any operation but a call. -/
namespace Go.Eng
open Go.RowKit

def srcKind (tt : TT) (t : TypeId) : Option Bool :=
  match tt t with
  | some ⟨.slice _, _, _, _⟩ => some false
  | some ⟨.str, _, _, _⟩ => some true
  | _ => none

def appendF (tt : TT) (nk : Key) (get : Store) (t tx : TypeId) (s x : V) : Option (V × List (Key × Obj)) :=
  match tt t with
  | some ⟨.slice e, _, _, _⟩ => match tt e, srcKind tt tx with
    | some ei, some stb => match srcV get ei.size stb x with
      | some xs => appendV ei nk get xs s x
      | none => none
    | _, _ => none
  | _ => none

def copyG (tt : TT) (get : Store) (t tx : TypeId) (s x : V) : Option (V × List (Key × Obj)) :=
  match tt t with
  | some ⟨.slice e, _, _, _⟩ => match tt e, srcKind tt tx with
    | some ei, some false => if ei.size = 0 then none else match srcV get ei.size false x with
      | some xs => copyF ei get xs s
      | none => none
    | _, _ => none
  | _ => none

def clearG (tt : TT) (get : Store) (t : TypeId) (s : V) : Option (V × List (Key × Obj)) :=
  match tt t with
  | some ⟨.slice e, _, _, _⟩ => match tt e with
    | some ei => (clearF ei get s).map fun u => (.tup [], u)
    | none => none
  | _ => none

def isLp : V → Bool
  | .lp .. => true
  | _ => false

/-- Zeros that are appended to nothing: 'append(nil, make([]T, n)...)'. -/
def isIntT (tt : TT) (t : TypeId) : Bool :=
  match tt t with
  | some ⟨.int _, _, _, _⟩ => true
  | _ => false
def appMakeF (tt : TT) (nk : Key) (get : Store) (t : TypeId) (s x : V) : Option (V × List (Key × Obj)) :=
  match tt t, x with
  | some ⟨.slice e, _, _, _⟩, .lit (.int _ n) => match tt e with
    | some ei => if 0 ≤ n ∧ roomOk n.toNat ei.bytes then appendV ei nk get (List.replicate n.toNat ei.zeroV) s .un else none
    | none => none
  | _, _ => none

/-- A conversion of bytes to a string. -/
def bytesStr (tt : TT) (src dst : TypeId) : Bool :=
  match tt src, tt dst with
  | some ⟨.slice e, _, _, _⟩, some ⟨.str, _, _, _⟩ => match tt e with
    | some ⟨.int .u8, _, _, _⟩ => true
    | _ => false
  | _, _ => false
def encU (n : Int) : V := .lit (.int .u8 n)
def numsOf : List V → Option (List Int)
  | [] => some []
  | .lit (.int .u8 n) :: r => (numsOf r).map (n :: ·)
  | _ => none
theorem numsOf_some : ∀ {es : List V} {ns : List Int}, numsOf es = some ns → es = ns.map encU
  | [], _, h => by cases h; rfl
  | x :: r, ns, h => by
    unfold numsOf at h
    split at h
    · rename_i h1; cases h1
    · rename_i n r' h1
      cases h1
      obtain ⟨ms, h2, rfl⟩ := Option.map_eq_some_iff.1 h
      rw [numsOf_some h2]; rfl
    · cases h
theorem numsOf_map : ∀ {ns : List Int}, numsOf (ns.map encU) = some ns
  | [] => rfl
  | n :: ns => by
    show (numsOf (ns.map encU)).map (n :: ·) = _
    rw [numsOf_map]; rfl
def bytesF (get : Store) (x : V) : Option (V × List (Key × Obj)) :=
  match srcV get 1 false x with
  | some es => (numsOf es).map fun ns => (.lit (.string (strOfNums ns)), [])
  | none => none

/-- What an operation that is no call comes to: its value, and what becomes of the objects. -/
def opF (tt : TT) (nk : Key) (op : Op) (μ : Operand → V) (get : Store) : Option (V × List (Key × Obj)) :=
  match op with
  | .alloc elem => match tt elem with
    | some ti => makeV tt nk get elem ti.zeroV
    | none => none
  | .box elem x => makeV tt nk get elem (μ x)
  | .buildSlice t len parts => buildSliceF tt nk get t len (parts.toList.map fun p => (p.1, μ p.2))
  | .makeSlice t l c => makeSliceF tt nk get t (μ l) (μ c)
  | .load t a => if isLp (μ a) = true then (loadF tt get t (μ a)).map fun v => (v, []) else (pureF tt (.load t a) μ).map fun v => (v, [])
  | .store t a x => (storeF tt get t (μ a) (μ x)).map fun u => (.un, u)
  | .convert src dst x => if bytesStr tt src dst = true then bytesF get (μ x) else (pureF tt (.convert src dst x) μ).map fun v => (v, [])
  | .call { callee := .builtin .append, args, argTypes } => match argTypes.toList, args.toList with
    | [t, tx], [s, x] => if isIntT tt tx = true then appMakeF tt nk get t (μ s) (μ x) else appendF tt nk get t tx (μ s) (μ x)
    | _, _ => none
  | .call { callee := .builtin .copy, args, argTypes } => match argTypes.toList, args.toList with
    | [t, tx], [s, x] => copyG tt get t tx (μ s) (μ x)
    | _, _ => none
  | .call { callee := .builtin .clear, args, argTypes } => match argTypes.toList, args.toList with
    | [t], [s] => clearG tt get t (μ s)
    | _, _ => none
  | op => (pureF tt op μ).map fun v => (v, [])

def InvE (c : Ctx) (st : St) (a : Act) (w : World) : Prop := ∃ F pl, Inv c F pl st a w

section
variable {P : Program} {tt : TT} {c : Ctx} {F : Cells} {pl : Places} {st : St} {a : Act} {w : World}

theorem ments_ex {k : Key} : ∀ {vs : List V}, k ∈ mentsL vs → ∃ (i : Nat) (v : V), vs[i]? = some v ∧ k ∈ v.ments
  | [], h => by simp [mentsL] at h
  | v :: vs, h => by
    simp only [mentsL, List.mem_append] at h
    rcases h with h | h
    · exact ⟨0, v, rfl, h⟩
    · obtain ⟨i, x, h1, h2⟩ := ments_ex h
      exact ⟨i + 1, x, by simpa using h1, h2⟩

theorem RepV.ments_some {m : Mem} {v : V} {cv : Value} (h : RepV F m pl v cv) : ∀ k, k ∈ v.ments → pl k ≠ none := by
  have many : ∀ {pl : Places} {vs : List V} {cs : Array Value}, cs.size = vs.length → (∀ (i : Nat) x (h : i < cs.size), vs[i]? = some x → ∀ k, k ∈ x.ments → pl k ≠ none) → ∀ k, k ∈ mentsL vs → pl k ≠ none := by
    intro pl vs cs hs hi k hk
    obtain ⟨i, x, h1, h2⟩ := ments_ex hk
    exact hi i x (by rw [hs]; exact (List.getElem?_eq_some_iff.1 h1).1) h1 k h2
  induction h with
  | un => intro k hk; simp [V.ments] at hk
  | lit => intro k hk; simp [V.ments] at hk
  | e0 => intro k hk; simp [V.ments] at hk
  | e0n => intro k hk; simp [V.ments] at hk
  | isn => intro k hk; simp [V.ments] at hk
  | lp hp _ => intro k hk; simp [V.ments] at hk; subst hk; rw [hp]; simp
  | ls hp _ _ _ _ => intro k hk; simp [V.ments] at hk; subst hk; rw [hp]; simp
  | ip _ _ _ _ _ => intro k hk; simp [V.ments] at hk
  | is _ _ _ _ _ _ => intro k hk; simp [V.ments] at hk
  | fn cs h1 _ ih => exact many h1 ih
  | agg cs h1 _ ih => exact many h1 ih
  | tup cs h1 _ ih => exact many h1 ih

theorem kind_of (htt : TTok P tt) {tx : TypeId} {b : Bool} (h : srcKind tt tx = some b) : (b = false ∧ ∃ e', P.underlying tx = some (.slice e')) ∨ (b = true ∧ P.underlying tx = some .string) := by
  unfold srcKind at h
  split at h
  · rename_i ht; cases h
    obtain ⟨i, d, hk⟩ := htt.get ht
    exact .inl ⟨rfl, _, hk.slice⟩
  · rename_i ht; cases h
    obtain ⟨i, d, hk⟩ := htt.get ht
    exact .inr ⟨rfl, hk.str⟩
  · cases h

theorem arr_one {α : Type} {xs : Array α} {x : α} (h : xs.toList = [x]) : xs = #[x] := by rw [← Array.toArray_toList (xs := xs), h]
theorem arr_two {α : Type} {xs : Array α} {x y : α} (h : xs.toList = [x, y]) : xs = #[x, y] := by rw [← Array.toArray_toList (xs := xs), h]

theorem ASrc.zeros {t tx ty e : TypeId} {i : TypeInfo} {z : Value} {k' : IntKind} (ht : P.underlying t = some (.slice e)) (hx : P.underlying tx = some (.int k')) (hi : P.info? e = some i) (hz : i.zero = some z) (k : IntKind) {n : Nat} (hzs : z.cells.size = i.size) (hs0 : 0 < i.size)
    (h63 : n ≤ 140737488351232) (hb : n * i.bytes ≤ 140737488355328) (hone : ∀ u ∈ (madeCells z.cells (n * z.cells.size)).toList, u.oneCell' = true) :
    ASrc P t tx ty e i z i.size (.int k n) n (madeCells z.cells (n * z.cells.size)).toList w := by
  have e1 : IntKind.i64.wrap (n : Int) = n := by
    simp only [IntKind.wrap, IntKind.signed, IntKind.bits]
    simp
    omega
  have h48' : ¬ (281474976710656 < (n : Int) * (i.bytes : Int)) := by
    have : ((n * i.bytes : Nat) : Int) = (n : Int) * (i.bytes : Int) := by push_cast; rfl
    omega
  have hneg : ¬ ((n : Int) < 0) := by omega
  have e0 : IntKind.i64.wrap 0 = 0 := by rfl
  refine ⟨by simp [size_madeCells, hzs], fun h0 _ base sLen sCap hle => ?_, fun b off sLen sCap hroom hc hf => ?_, fun base sLen sCap olds hold hg h64 hfit => ?_⟩
  · subst h0
    cases base <;> simp [Builtin.append_, run_underlying ht, run_underlying hx, sizeOf, typeInfo, zeroValue, hi, hz, asInt, asIntOf, IntKind.wrap, IntKind.signed, IntKind.bits, hle, storeCells]
  · have hst := run_storeCells_cells (P := P) b (off + sLen * i.size) (madeCells z.cells (n * z.cells.size)).toList 0 w (by simpa using hc) (by simpa using hf) hone
    simp only [Nat.add_zero] at hst
    by_cases hn0 : n = 0
    · subst hn0
      simp [madeCells] at hst
      have hroom' : sLen ≤ sCap := by omega
      simp [Builtin.append_, run_underlying ht, run_underlying hx, sizeOf, typeInfo, zeroValue, hi, hz, asInt, asIntOf, e0, hroom', Addr.add_lit, hst, madeCells]
    · have hs1 : ¬ n * i.size = 0 := Nat.mul_ne_zero (by omega) (by omega)
      have e2 : Builtin.zeroCells z.cells n = madeCells z.cells (n * z.cells.size) := rfl
      simp [Builtin.append_, run_underlying ht, run_underlying hx, sizeOf, typeInfo, zeroValue, hi, hz, asInt, asIntOf, e1, hneg, h48', hroom, Addr.add_lit, hs1, e2, hst]
  · have hn : ¬ (sLen + n ≤ sCap) := by omega
    have h63' : ¬ (9223372036854775807 < ((sLen : Int) + (n : Int))) := by omega
    have h48 : ¬ (281474976710656 < Builtin.nextslicecap (sLen + n) sCap * i.bytes) := by omega
    have e2 : Builtin.zeroCells z.cells n = madeCells z.cells (n * z.cells.size) := rfl
    by_cases hn0 : n = 0
    · subst hn0
      have hn' : ¬ sLen ≤ sCap := by omega
      have h63'' : ¬ (9223372036854775807 < (sLen : Int)) := by omega
      have h48'' : ¬ (281474976710656 < Builtin.nextslicecap sLen sCap * i.bytes) := by simpa using h48
      simp [Builtin.append_, run_underlying ht, run_underlying hx, sizeOf, typeInfo, zeroValue, hi, hz, asInt, asIntOf, e0, h48'', hn', h63'', Question.forced, hold, newRow, grownCap, madeCells]
    · have hs1 : ¬ n * i.size = 0 := Nat.mul_ne_zero (by omega) (by omega)
      simp [Builtin.append_, run_underlying ht, run_underlying hx, sizeOf, typeInfo, zeroValue, hi, hz, asInt, asIntOf, e1, hneg, h48, h48', hn, h63', hs1, Question.forced, hold, newRow, grownCap, e2]
      congr 2
      apply Array.ext'
      simp [List.append_assoc]

theorem appMake_sound (htt : TTok P tt) (h : Inv c F pl st a w) {nk : Key} (hk0 : nk.1 ≠ 0) {t tx ty : TypeId} (hi : isIntT tt tx = true) {s x : V} {cs cx : Value} (hs : RepV F (memOf w) pl s cs) (hx : RepV F (memOf w) pl x cx) {v : V} {ups : List (Key × Obj)}
    (hm : appMakeF tt nk st.ob t s x = some (v, ups)) :
    ∃ F' pl' w' cv, (Builtin.append_ #[t, tx] ty #[cs, cx]).run P w = .ok cv w' ∧ Inv c F' pl' { st with ob := st.ob.sets ups } a w' ∧ RepV F' (memOf w') pl' v cv := by
  unfold isIntT at hi
  split at hi <;> try contradiction
  rename_i htx
  obtain ⟨_, _, k1⟩ := htt.get htx
  unfold appMakeF at hm
  split at hm <;> try contradiction
  rename_i e _ _ _ kx n ht
  obtain ⟨_, _, k2⟩ := htt.get ht
  split at hm <;> try contradiction
  rename_i ei hei
  obtain ⟨i, d, k3⟩ := htt.get hei
  split at hm <;> try contradiction
  rename_i hc
  obtain ⟨hn, hr1, hr2⟩ := hc
  have hn0 : 0 < ei.size := by
    unfold appendV at hm
    split at hm
    · cases hm
    · omega
  cases hx.lit_inv
  obtain ⟨m, rfl⟩ : ∃ m : Nat, n = m := ⟨n.toNat, by omega⟩
  rw [Int.toNat_natCast] at hr1 hr2 hm
  obtain ⟨z1, z2, z3, z4, z5⟩ := zeroV_cells k3
  have cells : ∀ (j : Nat) x (c : Nat) y, (List.replicate m ei.zeroV)[j]? = some x → x.cells[c]? = some y → scal y = true ∧ ∃ cv, (madeCells ei.zeroVal.cells (m * ei.zeroVal.cells.size)).toList[j * ei.size + c]? = some cv ∧ RepV F (memOf w) noPl y cv := by
    intro j x c y hx hy
    have hj := (List.getElem?_eq_some_iff.1 hx).1
    simp only [List.length_replicate] at hj
    rw [List.getElem?_replicate, if_pos hj] at hx
    rw [← Option.some.inj hx] at hy
    have := made_rep (m := memOf w) (pq := noPl) (F := F) k3 (N := m * ei.zeroVal.cells.size) (j := j) (c := c) (y := y) (by
      rw [z4]
      have := Nat.mul_le_mul_right ei.size (show j + 1 ≤ m by omega)
      rw [Nat.add_mul] at this; omega) hy
    rw [Array.getElem?_toList]
    exact this
  have hone : ∀ u ∈ (madeCells ei.zeroVal.cells (m * ei.zeroVal.cells.size)).toList, u.oneCell' = true := by
    intro v hv
    rw [z4] at hv
    obtain ⟨q, hq, e⟩ := List.getElem_of_mem hv
    simp only [Array.length_toList, size_madeCells] at hq
    obtain ⟨j, cc, hj, hcc, rfl⟩ := divMod hn0 hq
    have hy := List.getElem?_eq_getElem (l := ei.zeroV.cells) (i := cc) (by omega)
    obtain ⟨t1, cv, t2, t3⟩ := made_rep (pq := noPl) (F := F) (m := memOf w) k3 (N := m * ei.size) (j := j) (by
        have := Nat.mul_le_mul_right ei.size (show j + 1 ≤ m by omega)
        rw [Nat.add_mul] at this; omega) hy
    obtain ⟨s1, s2⟩ := Array.getElem?_eq_some_iff.1 t2
    have : v = cv := by rw [← e, ← s2]; simp
    rw [this]; exact (rep_one t3 t1).1
  have hsrc := ASrc.zeros (w := w) (ty := ty) k2.slice k1.int k3.info k3.zero kx (n := m) (by rw [z4, k3.size]) (by rw [k3.size]; exact hn0) hr2 (by rw [k3.bytes]; exact hr1) hone
  refine append_core h hk0 k3 hs (xs := List.replicate m ei.zeroV) (news := (madeCells ei.zeroVal.cells (m * ei.zeroVal.cells.size)).toList) (by rw [List.length_replicate]; rw [k3.size] at hsrc; exact hsrc) (fun j y hy => ?_) cells hm
  have hj := (List.getElem?_eq_some_iff.1 hy).1
  simp only [List.length_replicate] at hj
  rw [List.getElem?_replicate, if_pos hj] at hy
  rw [← Option.some.inj hy]; exact z1

theorem src_shape {ob : Store} {n : Nat} {x : V} {m : Mem} {cx : Value} (hx : RepV F m pl x cx) {es : List V} (hs : srcV ob n false x = some es) :
    (∃ a cap, cx = .slice (some a) es.length cap) ∨ (∃ l c, cx = .slice none l c ∧ es = []) := by
  unfold srcV at hs
  split at hs
  · cases hx.lit_inv; cases hs; exact .inr ⟨_, _, rfl, rfl⟩
  · cases hx.lit_inv; cases hs; exact .inl ⟨_, _, rfl⟩
  · obtain ⟨a, rfl⟩ := hx.e0_inv
    cases hs
    cases a with
    | none => exact .inr ⟨_, _, rfl, rfl⟩
    | some a => exact .inl ⟨_, _, rfl⟩
  · split at hs <;> try contradiction
    cases hs
    obtain ⟨rfl, rfl⟩ | ⟨a, cap, cf, hcap, hsp, h1, h2, h3, rfl⟩ := hx.is_inv
    · exact .inr ⟨_, _, rfl, rfl⟩
    · exact .inl ⟨_, _, rfl⟩
  · obtain ⟨p, a, cap, hp, hpn, hlc, hic, ha, rfl⟩ := hx.ls_inv
    split at hs <;> try contradiction
    all_goals
      split at hs <;> try contradiction
      rename_i hb
      cases hs
      refine .inl ⟨a, cap, ?_⟩
      rw [List.length_take, List.length_drop]
      congr 1
      omega
  · rename_i h1; cases h1
  · cases hs

theorem bytes_sound (htt : TTok P tt) (h : WR F pl st.ob w) {src dst : TypeId} (hb : bytesStr tt src dst = true) {x : V} {cx : Value} (hx : RepV F (memOf w) pl x cx) {v : V} {ups : List (Key × Obj)} (hf : bytesF st.ob x = some (v, ups)) :
    ∃ s, v = .lit (.string s) ∧ ups = [] ∧ (convert src dst cx).run P w = .ok (.string s) w := by
  unfold bytesStr at hb
  split at hb <;> try contradiction
  rename_i e _ _ _ _ _ _ hsrc hdst
  split at hb <;> try contradiction
  rename_i he
  obtain ⟨_, _, k1⟩ := htt.get hsrc
  obtain ⟨_, _, k2⟩ := htt.get hdst
  obtain ⟨_, _, k3⟩ := htt.get he
  unfold bytesF at hf
  split at hf <;> try contradiction
  rename_i es hes
  obtain ⟨ns, hns, e2⟩ := Option.map_eq_some_iff.1 hf
  cases e2
  refine ⟨_, rfl, rfl, ?_⟩
  obtain ⟨news, hsrc', _, hc, hq⟩ := src_sound (P := P) h (n := 1) (by omega) (tx := src) (stb := false) (.inl ⟨rfl, _, k1.slice⟩) hx hes
  have hnl := hsrc'.newsLen
  have en := numsOf_some hns
  have hl : es.length = ns.length := by rw [en, List.length_map]
  have hnews : news = ns.map (Value.int .u8) := by
    refine List.ext_getElem (by rw [hnl, hl, List.length_map]; omega) fun j h1 h2 => ?_
    have hj : j < ns.length := by simpa using h2
    have e1 : es[j]? = some (encU ns[j]) := by rw [en, List.getElem?_map, List.getElem?_eq_getElem hj]; rfl
    obtain ⟨_, cv, g1, g2⟩ := hc j _ 0 (encU ns[j]) e1 rfl
    cases g2.lit_inv
    rw [Nat.mul_one, Nat.add_zero, List.getElem?_eq_getElem h1] at g1
    rw [List.getElem_map]
    exact Option.some.inj g1
  rcases src_shape hx hes with ⟨a, cap, rfl⟩ | ⟨l, c, rfl, rfl⟩
  · have h1 := hq rfl es.length (Nat.le_refl _)
    simp only [Builtin.firstCells] at h1
    rw [Nat.mul_one, List.take_of_length_le (by rw [hnl]; omega), hnews] at h1
    rw [run_convert_bytes_string w src dst e _ es.length cap k1.slice k3.int k2.str, run_bytesToString w _ es.length cap ns h1, foldl_push_bytes]
    simp [strOfNums, ByteArray.empty, ByteArray.emptyWithCapacity]
    rfl
  · have : ns = [] := by cases ns with | nil => rfl | cons a l => simp at hl
    subst this
    rw [run_convert_bytes_nil w src e k1.slice k3.int l c dst k2.str]
    rfl

theorem op_run (htt : TTok P tt) (h : Inv c F pl st a w) {nk : Key} (hk0 : nk.1 ≠ 0) (o : Oper) {v : V} {ups : List (Key × Obj)} (hf : opF tt nk o.op (ev st.tm) st.ob = some (v, ups)) :
    ∃ F' pl' w' r cv, (execOp a.eval o).run P w = .ok r w' ∧ (r = .value cv ∨ (r = .skip ∧ cv = undef)) ∧ Inv c F' pl' { st with ob := st.ob.sets ups } a w' ∧ RepV F' (memOf w') pl' v cv := by
  have hρ := ev_rep h
  have pure_case : ∀ {v}, pureF tt o.op (ev st.tm) = some v → ∃ F' pl' w' r cv, (execOp a.eval o).run P w = .ok r w' ∧ (r = .value cv ∨ (r = .skip ∧ cv = undef)) ∧ Inv c F' pl' { st with ob := st.ob.sets [] } a w' ∧ RepV F' (memOf w') pl' v cv := by
    intro v hv
    obtain ⟨cv, h1, h2⟩ := pureF_sound htt hρ o hv
    exact ⟨F, pl, w, _, cv, h1, .inl rfl, h, h2⟩
  have other : ∀ {x}, (pureF tt o.op (ev st.tm)).map (fun v => (v, ([] : List (Key × Obj)))) = some x → x = (v, ups) → ∃ F' pl' w' r cv, (execOp a.eval o).run P w = .ok r w' ∧ (r = .value cv ∨ (r = .skip ∧ cv = undef)) ∧ Inv c F' pl' { st with ob := st.ob.sets ups } a w' ∧ RepV F' (memOf w') pl' v cv := by
    intro x hx e
    subst e
    obtain ⟨v', hv, e⟩ := Option.map_eq_some_iff.1 hx
    simp only [Prod.mk.injEq] at e
    obtain ⟨rfl, rfl⟩ := e
    exact pure_case hv
  obtain ⟨dst, op, ty, pos, after, guard⟩ := o
  simp only at hf other pure_case
  cases op
  case alloc elem =>
    simp only [opF] at hf
    split at hf <;> try contradiction
    rename_i ti hti
    obtain ⟨i, d, hk⟩ := htt.get hti
    obtain ⟨pl', w', cv, h1, h2, h3⟩ := make_sound (P := P) h hk0 (elem := elem) (cx := ti.zeroVal) ti.zero_rep hf
    refine ⟨F, pl', w', _, cv, ?_, .inl rfl, h2, h3⟩
    simp only [Instr.box, Sem.run_bind] at h1
    simp only [execOp, Instr.alloc, Sem.run_bind, hk.zeroValue, Result.andThen]
    generalize hr : (newVar elem ti.zeroVal).run P w = r at h1
    cases r with
    | halt x w1 => simp [Result.andThen] at h1
    | ok x w1 => simp [Result.andThen] at h1 ⊢; exact ⟨h1.1, h1.2⟩
  case box elem x =>
    simp only [opF] at hf
    obtain ⟨pl', w', cv, h1, h2, h3⟩ := make_sound (P := P) h hk0 (hρ x) hf
    exact ⟨F, pl', w', _, cv, by simp [execOp, h1], .inl rfl, h2, h3⟩
  case buildSlice t len parts =>
    simp only [opF] at hf
    have hnk : st.ob nk = none := by
      unfold buildSliceF at hf
      split at hf <;> try contradiction
      split at hf <;> try contradiction
      split at hf <;> try contradiction
      rename_i hc; exact hc.2.2
    obtain ⟨F', pl', w', cv, h1, h2, h3⟩ := buildSlice_sound (P := P) htt h hk0 hρ (fun p _ hm => (hρ p.2).ments_some nk hm (h.wr.non nk hnk)) hf
    exact ⟨F', pl', w', _, cv, by simp [execOp, h1], .inl rfl, h2, h3⟩
  case makeSlice t l r =>
    simp only [opF] at hf
    obtain ⟨pl', w', cv, h1, h2, h3⟩ := makeSlice_sound (P := P) htt h hk0 (hρ l) (hρ r) hf
    exact ⟨F, pl', w', _, cv, by simp [execOp, h1], .inl rfl, h2, h3⟩
  case load t x =>
    simp only [opF] at hf
    split at hf
    · obtain ⟨v', hv, e⟩ := Option.map_eq_some_iff.1 hf
      simp only [Prod.mk.injEq] at e
      obtain ⟨rfl, rfl⟩ := e
      obtain ⟨cv, h1, h2⟩ := load_sound (P := P) htt h (hρ x) hv
      exact ⟨F, pl, w, _, cv, by simp [execOp, h1], .inl rfl, h, h2⟩
    · exact other hf rfl
  case store t x y =>
    simp only [opF] at hf
    obtain ⟨u, hu, e⟩ := Option.map_eq_some_iff.1 hf
    simp only [Prod.mk.injEq] at e
    obtain ⟨rfl, rfl⟩ := e
    obtain ⟨F', w', h1, h2⟩ := store_sound (P := P) htt h (hρ x) (hρ y) hu
    exact ⟨F', pl, w', _, undef, by simp [execOp, h1], .inr ⟨rfl, rfl⟩, h2, .un⟩
  case convert src dst x =>
    simp only [opF] at hf
    split at hf
    · rename_i hb
      obtain ⟨s, rfl, rfl, h1⟩ := bytes_sound (P := P) htt h.wr hb (hρ x) hf
      exact ⟨F, pl, w, _, .string s, by simp [execOp, h1], .inl rfl, h, .lit⟩
    · exact other hf rfl
  case call cl =>
    obtain ⟨callee, args, argTypes⟩ := cl
    cases callee
    case builtin b =>
      cases b
      case append =>
        simp only [opF] at hf
        split at hf <;> try contradiction
        rename_i t tx s x hts has
        split at hf
        · rename_i hmk
          obtain ⟨F', pl', w', cv, h1, h2, h3⟩ := appMake_sound (P := P) htt h hk0 (ty := ty) hmk (hρ s) (hρ x) hf
          refine ⟨F', pl', w', _, cv, ?_, .inl rfl, h2, h3⟩
          rw [arr_two hts, arr_two has]
          simp [execOp, resolve, invoke, builtin, h1]
        unfold appendF at hf
        split at hf <;> try contradiction
        rename_i e _ _ _ ht
        obtain ⟨i, d, hk⟩ := htt.get ht
        split at hf <;> try contradiction
        rename_i ei stb hei hsk
        obtain ⟨i2, d2, hk2⟩ := htt.get hei
        split at hf <;> try contradiction
        rename_i xs hxs
        obtain ⟨F', pl', w', cv, h1, h2, h3⟩ := append_sound (P := P) h hk0 (ty := ty) hk.slice hk2 (kind_of htt hsk) (hρ s) (hρ x) hxs hf
        refine ⟨F', pl', w', _, cv, ?_, .inl rfl, h2, h3⟩
        rw [arr_two hts, arr_two has]
        simp [execOp, resolve, invoke, builtin, h1]
      case copy =>
        simp only [opF] at hf
        split at hf <;> try contradiction
        rename_i t tx s x hts has
        unfold copyG at hf
        split at hf <;> try contradiction
        rename_i e _ _ _ ht
        obtain ⟨i, d, hk⟩ := htt.get ht
        split at hf <;> try contradiction
        rename_i ei hei hsk
        obtain ⟨i2, d2, hk2⟩ := htt.get hei
        split at hf <;> try contradiction
        rename_i hn
        split at hf <;> try contradiction
        rename_i xs hxs
        have hkk : ∃ e', P.underlying tx = some (.slice e') := by
          rcases kind_of htt hsk with ⟨_, g⟩ | ⟨g, _⟩
          · exact g
          · cases g
        obtain ⟨w', cv, h1, h2, h3⟩ := copy_sound (P := P) h (ty := ty) hk.slice hk2 (by omega) hkk (hρ s) (hρ x) hxs hf
        refine ⟨F, pl, w', _, cv, ?_, .inl rfl, h2, h3⟩
        rw [arr_two hts, arr_two has]
        simp [execOp, resolve, invoke, builtin, h1]
      case clear =>
        simp only [opF] at hf
        split at hf <;> try contradiction
        rename_i t s hts has
        unfold clearG at hf
        split at hf <;> try contradiction
        rename_i e _ _ _ ht
        obtain ⟨i, d, hk⟩ := htt.get ht
        split at hf <;> try contradiction
        rename_i ei hei
        obtain ⟨i2, d2, hk2⟩ := htt.get hei
        obtain ⟨u, hu, e'⟩ := Option.map_eq_some_iff.1 hf
        simp only [Prod.mk.injEq] at e'
        obtain ⟨rfl, rfl⟩ := e'
        obtain ⟨w', h1, h2⟩ := clear_sound (P := P) h (ty := ty) hk.slice hk2 (hρ s) hu
        refine ⟨F, pl, w', _, .tuple #[], ?_, .inl rfl, h2, .tup _ rfl (fun i x hi => by simp at hi)⟩
        rw [arr_one hts, arr_one has]
        simp [execOp, resolve, invoke, builtin, h1]
      all_goals exact other (x := (v, ups)) (by simpa only [opF] using hf) rfl
    all_goals exact other (x := (v, ups)) (by simpa only [opF] using hf) rfl
  all_goals exact other (x := (v, ups)) (by simpa only [opF] using hf) rfl

theorem op_sound (htt : TTok P tt) (h : InvE c st a w) {nk : Key} (hk0 : nk.1 ≠ 0) (o : Oper) {v : V} {ups : List (Key × Obj)} (hf : opF tt nk o.op (ev st.tm) st.ob = some (v, ups)) {next : Act → World → Prop} {Q : Exit → Act → World → Prop}
    (hn : ∀ a' w', InvE c (({ st with ob := st.ob.sets ups } : St).put o.dst v) a' w' → next a' w') : o.wp P a w next Q := by
  obtain ⟨F, pl, hI⟩ := h
  obtain ⟨F', pl', w', r, cv, h1, h2, h3, h4⟩ := op_run (P := P) htt hI hk0 o hf
  unfold Oper.wp
  rw [h1]
  rcases h2 with rfl | ⟨rfl, rfl⟩
  · exact hn _ _ ⟨F', pl', h3.put o.dst h4⟩
  · exact hn _ _ ⟨F', pl', h3.put o.dst h4⟩
end
end Go.Eng
