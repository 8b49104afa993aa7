/- A machine of values for the program's code, part 10: the other operations that make, read and change objects. -/
import Derived.Test.YtpfmaiiolifblaaXPoll08
namespace Go.Eng
open Go.RowKit

def setCellsV (e : V) (off : Nat) (xs : List V) : Option V :=
  match e with
  | .agg cs => if off + xs.length ≤ cs.length then some (.agg (cs.take off ++ xs ++ cs.drop (off + xs.length))) else none
  | _ => match off, xs with
    | 0, [x] => some x
    | _, _ => none

def makeV (tt : TT) (nk : Key) (get : Store) (elem : TypeId) (x : V) : Option (V × List (Key × Obj)) :=
  match tt elem with
  | some ti => if 0 < ti.size ∧ get nk = none ∧ okE ti.size x = true then some (.lp nk ti.size 0 0, [(nk, .arr false ti.size [x])]) else none
  | none => none

def loadF (tt : TT) (get : Store) (t : TypeId) (x : V) : Option V :=
  match tt t, x with
  | some ti, .lp k n i off => match get k with
    | some (.arr _ n' es) => if n' = n then match es[i]? with
      | some e => loadV ti e off
      | none => none
      else none
    | some (.froz n' es) => if n' = n then match es[i]? with
      | some e => loadV ti e off
      | none => none
      else none
    | _ => none
  | _, _ => none

def keepOrFrz (kf : Bool) (get : Store) (x : V) : Option (V × List (Key × Obj)) := if kf then frz get x else some (x, [])

def storeF (tt : TT) (get : Store) (t : TypeId) (a x : V) : Option (List (Key × Obj)) :=
  match tt t, a with
  | some ti, .lp k n i off => match get k with
    | some (.arr kf n' es) => if n' = n ∧ okE ti.size x = true ∧ k ∉ x.ments then match es[i]? with
      | some e => match keepOrFrz kf get x with
        | some (x', ups) => match setCellsV e off x'.cells with
          | some e' => some (ups ++ [(k, .arr kf n (es.set i e'))])
          | none => none
        | none => none
      | none => none
      else none
    | _ => none
  | _, _ => none

/-- Rows whose elements name no objects: all but rows of rows. -/
def kfT : TD → Bool
  | .slice _ => false
  | _ => true

def makeSliceF (tt : TT) (nk : Key) (get : Store) (t : TypeId) (l c : V) : Option (V × List (Key × Obj)) :=
  match tt t with
  | some ⟨.slice e, _, _, _⟩ => match tt e, l, c with
    | some ei, .lit (.int _ l), .lit (.int _ c) =>
      if 0 < ei.size ∧ get nk = none ∧ 0 ≤ l ∧ l ≤ c ∧ c ≤ 140737488351232 ∧ c * ei.bytes ≤ 281474976710656 then
        some (.ls nk ei.size 0 l.toNat, [(nk, .arr (kfT ei.td) ei.size (List.replicate l.toNat ei.zeroV))])
      else none
    | _, _, _ => none
  | _ => none

def putParts (n : Nat) (get : Store) : List V → List (Nat × V) → Option (List V × List (Key × Obj))
  | es, [] => some (es, [])
  | es, (i, x) :: r => if i < es.length ∧ okE n x = true then match frz get x with
      | some (x', u) => match putParts n get (es.set i x') r with
        | some (es', us) => some (es', u ++ us)
        | none => none
      | none => none
    else none

def buildSliceF (tt : TT) (nk : Key) (get : Store) (t : TypeId) (len : Nat) (parts : List (Nat × V)) : Option (V × List (Key × Obj)) :=
  match tt t with
  | some ⟨.slice e, _, _, _⟩ => match tt e with
    | some ei => if 0 < ei.size ∧ len * ei.size ≤ 16777216 ∧ get nk = none then match putParts ei.size get (List.replicate len ei.zeroV) parts with
        | some (es, ups) => some (.ls nk ei.size 0 len, ups ++ [(nk, .arr true ei.size es)])
        | none => none
      else none
    | none => none
  | _ => none

def copyF (ei : TI) (get : Store) (xs : List V) (d : V) : Option (V × List (Key × Obj)) :=
  match d with
  | .ls k n i len => match get k with
    | some (.arr true n' es) => if n = ei.size ∧ n' = ei.size ∧ i + len ≤ es.length then
        some (.lit (.int .i64 (Nat.min xs.length len)), [(k, .arr true n' (es.take i ++ xs.take (Nat.min xs.length len) ++ es.drop (i + Nat.min xs.length len)))]) else none
    | _ => none
  | _ => none

def clearF (ei : TI) (get : Store) (d : V) : Option (List (Key × Obj)) :=
  match d with
  | .ls k n i len => match get k with
    | some (.arr true n' es) => if n = ei.size ∧ n' = ei.size ∧ i + len ≤ es.length then
        some [(k, .arr true n' (es.take i ++ List.replicate len ei.zeroV ++ es.drop (i + len)))] else none
    | _ => none
  | .lit (.slice none 0 0) => some []
  | .e0 => some []
  | _ => none

section
variable {P : Program} {tt : TT} {c : Ctx} {F : Cells} {pl : Places} {st : St} {a : Act} {w : World}

theorem zeroV_cells {t : TypeId} {ti : TI} {i : TypeInfo} {d : TypeDesc} (h : TOk P t ti i d) : ti.zeroV.cells.length = ti.size ∧ ti.zeroV.cells.all scal = true ∧ ti.zeroV.ments = [] ∧
    ti.zeroVal.cells.size = ti.size ∧ ∀ (c : Nat) y, ti.zeroV.cells[c]? = some y → ∃ cv, ti.zeroVal.cells[c]? = some cv ∧ y = .lit cv := by
  unfold TI.zeroV TI.zeroVal
  cases ha : ti.td.isAgg with
  | true =>
    have hz := h.zl
    have hm : ∀ l : List Z, mentsL (l.map fun z => V.lit z.val) = [] := by
      intro l; induction l with
      | nil => rfl
      | cons z t ih => simp only [List.map_cons, mentsL, V.ments, ih]; rfl
    refine ⟨by simp [V.cells, hz], ?_, hm _, by simp [Value.cells, hz], fun c y hy => ?_⟩
    · simp only [V.cells, List.all_map, List.all_eq_true]
      intro z _; cases z <;> rfl
    · simp only [V.cells, List.getElem?_map, Option.map_eq_some_iff] at hy
      obtain ⟨z, hz, rfl⟩ := hy
      exact ⟨z.val, by simp [Value.cells, hz], rfl⟩
  | false =>
    have h1 := h.zs ha
    have hz := h.zl
    rw [h1] at hz
    match hzz : ti.zero, hz with
    | [z], _ =>
      refine ⟨by simp [V.cells, h1], ?_, rfl, ?_, fun c y hy => ?_⟩
      · cases z <;> rfl
      · rw [h1]; cases z <;> rfl
      · have : c = 0 := by
          have := (List.getElem?_eq_some_iff.1 hy).1
          simp [V.cells] at this; exact this
        subst this
        simp only [V.cells, List.getElem?_cons_zero, Option.some.injEq] at hy; subst hy
        exact ⟨z.val, by cases z <;> rfl, rfl⟩

theorem run_newVar (e : TypeId) (v : Value) : (newVar e v).run P w = .ok ⟨w.heap.size, 0, none⟩ (w.alloc (.cells v.cells e)) := rfl

theorem okE_iff {n : Nat} {x : V} : okE n x = true ↔ x.cells.length = n ∧ x.cells.all scal = true := by simp [okE]

theorem all_get {l : List V} (h : l.all scal = true) {i : Nat} {x : V} (hx : l[i]? = some x) : scal x = true := List.all_eq_true.1 h x (List.mem_of_getElem? hx)

/-- A new variable. -/
theorem make_sound (h : Inv c F pl st a w) {nk : Key} (hk0 : nk.1 ≠ 0) {elem : TypeId} {x : V} {cx : Value} (hx : RepV F (memOf w) pl x cx) {v : V} {ups : List (Key × Obj)} (hm : makeV tt nk st.ob elem x = some (v, ups)) :
    ∃ pl' w' cv, (Instr.box elem cx).run P w = .ok cv w' ∧ Inv c F pl' { st with ob := st.ob.sets ups } a w' ∧ RepV F (memOf w') pl' v cv := by
  unfold makeV at hm
  split at hm <;> try contradiction
  rename_i ti hti
  split at hm <;> try contradiction
  rename_i hc
  obtain ⟨h0, hnk, hok⟩ := hc
  obtain ⟨h1, h2⟩ := okE_iff.1 hok
  simp only [Option.some.injEq, Prod.mk.injEq] at hm
  obtain ⟨rfl, rfl⟩ := hm
  obtain ⟨vc, k1, k2, k3⟩ := rep_cells hx h2
  have hmk := h.make hk0 hnk false h0 (C := 1) (es := [x]) (by simp) (cs := cx.cells) (by rw [k1, k2, h1]; simp) elem (fun j y hy => by
    have hj : j = 0 := by have := (List.getElem?_eq_some_iff.1 hy).1; simp at this; exact this
    subst hj
    simp only [List.getElem?_cons_zero, Option.some.injEq] at hy; subst hy
    refine ⟨h1, fun c y hy => ⟨all_get h2 hy, ?_⟩⟩
    have hc := (List.getElem?_eq_some_iff.1 hy).1
    rw [← k2] at hc
    exact ⟨vc[c], by simp [k1, hc], by simpa [Obj.plc] using k3 c y hc hy⟩)
  refine ⟨_, _, _, ?_, hmk, .lp (Places.set_self _ _ _) rfl⟩
  simp only [Instr.box, Sem.run_bind, run_newVar, Result.andThen]
  simp

theorem plc_rep {F : Cells} {m : Mem} {kf : Bool} {x : V} {cv : Value} (h : RepV F m (Obj.plc kf pl) x cv) : RepV F m pl x cv := by
  unfold Obj.plc at h
  split at h
  · exact h.ofNo
  · exact h

theorem load_sound (htt : TTok P tt) (h : Inv c F pl st a w) {t : TypeId} {x : V} {cx : Value} (hx : RepV F (memOf w) pl x cx) {v : V} (hl : loadF tt st.ob t x = some v) :
    ∃ cv, (Instr.loadAt t cx).run P w = .ok cv w ∧ RepV F (memOf w) pl v cv := by
  unfold loadF at hl
  split at hl <;> try contradiction
  rename_i ti k n i off hti
  obtain ⟨ii, d, hk⟩ := htt.get hti
  obtain ⟨p, hp, hpn, rfl⟩ := hx.lp_inv
  split at hl
  · rename_i kf n' es hob
    split at hl <;> try contradiction
    rename_i hn; subst hn
    split at hl <;> try contradiction
    rename_i e he
    obtain ⟨q, hq, r1, r2, r3, r4, r5⟩ := live_row h.wr hob
    cases hp.symm.trans hq
    obtain ⟨g1, g2⟩ := r4 i e he
    obtain ⟨cv, k1, k2⟩ := run_loadVar_cells (P := P) hk g1 g2 hl
    exact ⟨cv, by simp [Instr.loadAt, Instr.sureAddr, k1], plc_rep k2⟩
  · rename_i n' es hob
    split at hl <;> try contradiction
    rename_i hn; subst hn
    split at hl <;> try contradiction
    rename_i e he
    obtain ⟨q, hq, r1, r2, r3, r4⟩ := froz_row h.wr hob
    cases hp.symm.trans hq
    obtain ⟨g1, g2⟩ := r4 i e he
    obtain ⟨cv, k1, k2⟩ := run_loadVar_cells (P := P) hk g1 g2 hl
    exact ⟨cv, by simp [Instr.loadAt, Instr.sureAddr, k1], k2.ofNo⟩
  · cases hl

theorem setCellsV_cells {e e' : V} {off : Nat} {xs : List V} (h : setCellsV e off xs = some e') (hxs : xs.all scal = true) : off + xs.length ≤ e.cells.length ∧ e'.cells.length = e.cells.length ∧
    ∀ (c : Nat) y, e'.cells[c]? = some y → (off ≤ c ∧ c < off + xs.length ∧ xs[c - off]? = some y) ∨ (¬ (off ≤ c ∧ c < off + xs.length) ∧ e.cells[c]? = some y) := by
  unfold setCellsV at h
  split at h
  · rename_i cs
    split at h <;> try contradiction
    rename_i hle
    cases h
    refine ⟨hle, by simp [V.cells]; omega, fun c y hy => ?_⟩
    simp only [V.cells] at hy ⊢
    by_cases h1 : c < off
    · rw [List.append_assoc, List.getElem?_append_left (by simp; omega)] at hy
      refine .inr ⟨by omega, ?_⟩
      rw [List.getElem?_take] at hy
      rwa [if_pos h1] at hy
    · by_cases h2 : c < off + xs.length
      · rw [List.append_assoc, List.getElem?_append_right (by simp; omega), List.getElem?_append_left (by simp; omega)] at hy
        refine .inl ⟨by omega, h2, ?_⟩
        rw [← hy]; congr 1; simp; omega
      · rw [List.getElem?_append_right (by simp; omega), List.getElem?_drop] at hy
        refine .inr ⟨by omega, ?_⟩
        rw [← hy]; congr 1; simp; omega
  · rename_i hna
    split at h <;> try contradiction
    rename_i x
    cases h
    have he : e.cells = [e] := by cases e <;> first | rfl | exact absurd rfl (hna _)
    have hx : e'.cells = [e'] := by
      simp at hxs
      cases e' <;> first | rfl | simp [scal] at hxs
    rw [he, hx]
    refine ⟨by simp, rfl, fun c y hy => .inl ?_⟩
    have hc : c = 0 := by have := (List.getElem?_eq_some_iff.1 hy).1; simp at this; exact this
    subst hc
    exact ⟨by omega, by simp, by simpa using hy⟩

theorem sets_ne {ob : Store} {ups : List (Key × Obj)} {k : Key} (h : ∀ u ∈ ups, u.1 ≠ k) : ob.sets ups k = ob k := by
  induction ups generalizing ob with
  | nil => rfl
  | cons u t ih => simp only [Store.sets]; rw [ih (fun x hx => h x (by simp [hx])), Store.set_ne _ _ (Ne.symm (h u (by simp)))]

theorem frzC_keys {get : Store} {x x' : V} {ups : List (Key × Obj)} (h : frzC get x = some (x', ups)) : ∀ u ∈ ups, u.1 ∈ x.ments := by
  unfold frzC at h
  split at h
  · cases h
  · split at h <;> simp at h; intro u hu; rw [h.2] at hu; cases hu
  · split at h
    · split at h <;> simp at h; intro u hu; rw [← h.2] at hu; simp at hu; subst hu; simp [V.ments]
    · split at h <;> simp at h; intro u hu; rw [h.2] at hu; cases hu
    · cases h
  · simp at h; intro u hu; rw [h.2] at hu; cases hu

theorem frzL_keys {get : Store} : ∀ {xs xs' : List V} {ups : List (Key × Obj)}, frzL get xs = some (xs', ups) → ∀ u ∈ ups, u.1 ∈ mentsL xs
  | [], _, _, h => by simp [frzL] at h; intro u hu; rw [h.2] at hu; cases hu
  | x :: xs, _, _, h => by
    simp only [frzL] at h
    split at h <;> try contradiction
    rename_i y u hy
    split at h <;> try contradiction
    rename_i ys us hys
    simp only [Option.some.injEq, Prod.mk.injEq] at h
    intro v hv
    rw [← h.2] at hv
    simp only [mentsL, List.mem_append] at hv ⊢
    exact hv.imp (frzC_keys hy v) (frzL_keys hys v)

theorem frz_keys {get : Store} {x x' : V} {ups : List (Key × Obj)} (h : frz get x = some (x', ups)) : ∀ u ∈ ups, u.1 ∈ x.ments := by
  unfold frz at h
  split at h
  · obtain ⟨r, hr, e⟩ := Option.map_eq_some_iff.1 h
    simp only [Prod.mk.injEq] at e
    rw [← e.2]
    simp only [V.ments]
    exact frzL_keys hr
  · exact frzC_keys h

/-- A store: the object is changed in its place; what a row is given is no longer written. -/
theorem store_sound (htt : TTok P tt) (h : Inv c F pl st a w) {t : TypeId} {x y : V} {cx cy : Value} (hx : RepV F (memOf w) pl x cx) (hy : RepV F (memOf w) pl y cy) {ups : List (Key × Obj)} (hst : storeF tt st.ob t x y = some ups) :
    ∃ F' w', (Instr.storeAt t cx cy).run P w = .ok () w' ∧ Inv c F' pl { st with ob := st.ob.sets ups } a w' := by
  unfold storeF at hst
  split at hst <;> try contradiction
  rename_i ti k n i off hti
  obtain ⟨ii, d, hk⟩ := htt.get hti
  obtain ⟨p, hp, hpn, rfl⟩ := hx.lp_inv
  split at hst <;> try contradiction
  rename_i kf n' es hob
  split at hst <;> try contradiction
  rename_i hcond
  obtain ⟨rfl, hok, hkm⟩ := hcond
  obtain ⟨ok1, ok2⟩ := okE_iff.1 hok
  split at hst <;> try contradiction
  rename_i e he
  split at hst <;> try contradiction
  rename_i y' us hy'
  split at hst <;> try contradiction
  rename_i e' he'
  simp only [Option.some.injEq] at hst
  subst hst
  -- what is stored, perhaps no longer written
  have key : ∃ F', Inv c F' pl { st with ob := st.ob.sets us } a w ∧ y'.cells.length = y.cells.length ∧ y'.cells.all scal = true ∧ RepV F' (memOf w) (Obj.plc kf pl) y' cy ∧ (st.ob.sets us) k = st.ob k := by
    unfold keepOrFrz at hy'
    split at hy'
    · rename_i hkf
      obtain ⟨F', j1, j2, j3, j4, j5, j6⟩ := frz_sound (cur := st.ob) h (fun k => .inl rfl) hy ok2 hy'
      refine ⟨F', j1, j4, j5, by simpa [Obj.plc, hkf] using j6, sets_ne (fun u hu => ?_)⟩
      intro e; exact hkm (e ▸ frz_keys hy' u hu)
    · rename_i hkf
      simp only [Option.some.injEq, Prod.mk.injEq] at hy'
      obtain ⟨rfl, rfl⟩ := hy'
      exact ⟨F, h, rfl, ok2, by simpa [Obj.plc, hkf] using hy, rfl⟩
  obtain ⟨F', hI, g1, g2, g3, g4⟩ := key
  have hob' : ({ st with ob := st.ob.sets us } : St).ob k = some (.arr kf n' es) := by rw [← hob]; exact g4
  obtain ⟨q, hq, r1, r2, r3, r4, r5⟩ := live_row hI.wr hob'
  cases hp.symm.trans hq
  obtain ⟨s1, s2, s3⟩ := setCellsV_cells he' g2
  obtain ⟨vc, v1, v2, v3⟩ := rep_cells g3 g2
  have hi := (List.getElem?_eq_some_iff.1 he).1
  have hel := (r4 i e he).1
  have hin : ∀ j, j < vc.toList.length → p.has p.b (p.base + i * n' + off + j) := by
    intro j hj
    have := pl_has (p := p) hpn r3 hi (c := off + j) (by simp at hj; omega)
    rwa [← Nat.add_assoc] at this
  have hone : ∀ v ∈ vc.toList, v.oneCell' = true := by
    intro v hv
    obtain ⟨j, hj, e⟩ := List.getElem_of_mem hv
    have hj' : j < vc.size := by simpa using hj
    have hz : y'.cells[j]? = some y'.cells[j] := List.getElem?_eq_getElem (by omega)
    have := (rep_one (v3 j _ hj' hz) (all_get g2 hz)).1
    simp at e; rw [← e]; exact this
  have hrun := run_storeCells_cells (P := P) p.b (p.base + i * n' + off) vc.toList 0 w (fun j hj => (r5 _ (by simpa using hin j hj)).1) (fun j hj => by
    have := (r5 _ (hin j hj)).2.1
    simpa [frozOf] using this) hone
  simp only [Nat.add_zero] at hrun
  let w' := w.setCells p.b (p.base + i * n' + off) vc.toList
  have hsome : ∀ j, j < vc.toList.length → (memOf w p.b (p.base + i * n' + off + j)).isSome := fun j hj => (r5 _ (hin j hj)).1
  refine ⟨F', w', ?_, ?_⟩
  · have hsz : ¬ (cy.cells.size ≠ ti.size) := by rw [v1, v2]; omega
    rw [← v1] at hrun
    simp only [Instr.storeAt, Instr.sureAddr, Sem.run_bind, Sem.run_pure, Result.andThen, storeVar, hk.sizeOf]
    rw [if_neg hsz]
    rw [v1] at hrun ⊢
    exact hrun
  · have := hI.rewrite hob' hp (w' := w') (same_setCells hin) (fun o ho => setCells_exists hsome ⟨(r5 o ho).1, (r5 o ho).2.1⟩) (es' := es.set i e') (by simpa using r3) (fun j z hz => by
      rw [List.getElem?_set] at hz
      split at hz
      · rename_i hij
        subst hij
        have hz : e' = z := by simpa [hi] using hz
        subst hz
        refine ⟨by rw [s2]; exact hel, fun c u hu => ?_⟩
        rcases s3 c u hu with ⟨t1, t2, t3⟩ | ⟨t1, t2⟩
        · have t4 := (List.getElem?_eq_some_iff.1 t3).1
          rw [← v2] at t4
          refine ⟨all_get g2 t3, vc[c - off], ?_, v3 (c - off) u t4 t3⟩
          have := setCells_in hsome (j := c - off) (v := vc[c - off]) (by simp [t4])
          rwa [show p.base + i * n' + off + (c - off) = p.base + i * n' + c by omega] at this
        · obtain ⟨u1, cv, u2, u3⟩ := (r4 i e he).2 c u t2
          refine ⟨u1, cv, ?_, u3⟩
          rw [← u2]
          refine setCells_out ?_
          have : vc.toList.length = y'.cells.length := by simpa using v2
          omega
      · rename_i hij
        obtain ⟨u1, u2⟩ := r4 j z hz
        refine ⟨u1, fun c u hu => ?_⟩
        obtain ⟨t1, cv, t2, t3⟩ := u2 c u hu
        refine ⟨t1, cv, ?_, t3⟩
        rw [← t2]
        have hc := (List.getElem?_eq_some_iff.1 hu).1
        rw [u1] at hc
        refine setCells_out ?_
        have hl : vc.toList.length = y'.cells.length := by simpa using v2
        rw [hel] at s1
        rcases Nat.lt_or_ge j i with g | g
        · left
          have := Nat.mul_le_mul_right n' (show j + 1 ≤ i by omega)
          rw [Nat.add_mul] at this; omega
        · right
          have := Nat.mul_le_mul_right n' (show i + 1 ≤ j by omega)
          rw [Nat.add_mul] at this; omega)
    rw [Store.sets_append]
    exact this
end
end Go.Eng
