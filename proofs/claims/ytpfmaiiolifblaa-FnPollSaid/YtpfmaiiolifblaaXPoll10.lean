/- A machine of values for the program's code, part 11: rows that are made, copied and cleared; any operation. -/
import Derived.Laws.MakeOwn
import Derived.Test.YtpfmaiiolifblaaXPoll09
namespace Go.Eng
open Go.RowKit

theorem fold_put (off : Nat) (vc ca : Array Value) (h : off + vc.size ≤ ca.size) : (vc.zipIdx.foldl (fun cs (c, j) => cs.setIfInBounds (off + j) c) ca).size = ca.size ∧
    ∀ (j : Nat), (vc.zipIdx.foldl (fun cs (c, j) => cs.setIfInBounds (off + j) c) ca)[j]? = if off ≤ j ∧ j < off + vc.size then vc[j - off]? else ca[j]? := by
  have gen : ∀ (l : List Value) (s : Nat) (cur : Array Value), off + s + l.length ≤ cur.size →
      ((l.zipIdx s).foldl (fun cs (c, j) => cs.setIfInBounds (off + j) c) cur).size = cur.size ∧
      ∀ (j : Nat), ((l.zipIdx s).foldl (fun cs (c, j) => cs.setIfInBounds (off + j) c) cur)[j]? = if off + s ≤ j ∧ j < off + s + l.length then l[j - (off + s)]? else cur[j]? := by
    intro l
    induction l with
    | nil => intro s cur _; exact ⟨rfl, fun j => by simp; omega⟩
    | cons y t iht =>
      intro s cur hle
      simp only [List.zipIdx_cons, List.foldl_cons]
      simp only [List.length_cons] at hle
      obtain ⟨e1, e2⟩ := iht (s + 1) (cur.setIfInBounds (off + s) y) (by simp; omega)
      refine ⟨by rw [e1]; simp, fun j => ?_⟩
      rw [e2]
      by_cases hj : j = off + s
      · subst hj
        have hlt : off + s < cur.size := by omega
        rw [if_neg (by omega), if_pos (by simp)]
        simp [hlt]
      · by_cases hr : off + (s + 1) ≤ j ∧ j < off + (s + 1) + t.length
        · rw [if_pos hr, if_pos (by simp; omega)]
          rw [show j - (off + s) = (j - (off + (s + 1))) + 1 by omega]
          simp
        · rw [if_neg hr, if_neg (by simp; omega), Array.getElem?_setIfInBounds_ne (by omega)]
  have := gen vc.toList 0 ca (by simp; omega)
  rw [← Array.foldl_toList, Array.toList_zipIdx]
  simpa using this

theorem madeCells_get {z : Array Value} {n q : Nat} (h : q < n) : (madeCells z n)[q]? = some (z[q % z.size]!) := by
  simp [madeCells, h]

section
variable {P : Program} {tt : TT} {c : Ctx} {F : Cells} {pl : Places} {st : St} {a : Act} {w : World}

theorem made_rep {m : Mem} {pq : Places} {t : TypeId} {ti : TI} {i : TypeInfo} {d : TypeDesc} (hk : TOk P t ti i d) {N : Nat} {j c : Nat} {y : V} (hj : j * ti.size + ti.size ≤ N) (hy : ti.zeroV.cells[c]? = some y) :
    scal y = true ∧ ∃ cv, (madeCells ti.zeroVal.cells N)[j * ti.size + c]? = some cv ∧ RepV F m pq y cv := by
  obtain ⟨z1, z2, z3, z4, z5⟩ := zeroV_cells hk
  obtain ⟨cv, k1, k2⟩ := z5 c y hy
  have hc := (List.getElem?_eq_some_iff.1 hy).1
  rw [z1] at hc
  refine ⟨all_get z2 hy, cv, ?_, by rw [k2]; exact .lit⟩
  rw [madeCells_get (by omega), z4]
  have : (j * ti.size + c) % ti.size = c := by rw [Nat.mul_comm, Nat.mul_add_mod]; exact Nat.mod_eq_of_lt hc
  rw [this, getElem!_def, k1]

theorem makeSlice_sound (htt : TTok P tt) (h : Inv c F pl st a w) {nk : Key} (hk0 : nk.1 ≠ 0) {t : TypeId} {l r : V} {cl cr : Value} (hl : RepV F (memOf w) pl l cl) (hr : RepV F (memOf w) pl r cr) {v : V} {ups : List (Key × Obj)}
    (hm : makeSliceF tt nk st.ob t l r = some (v, ups)) :
    ∃ pl' w' cv, (Instr.makeSlice t cl cr).run P w = .ok cv w' ∧ Inv c F pl' { st with ob := st.ob.sets ups } a w' ∧ RepV F (memOf w') pl' v cv := by
  unfold makeSliceF at hm
  split at hm <;> try contradiction
  rename_i e _ _ _ hts
  obtain ⟨i, d, hk⟩ := htt.get hts
  split at hm <;> try contradiction
  rename_i ei k1 l0 k2 c0 hte
  obtain ⟨i2, d2, hk2⟩ := htt.get hte
  split at hm <;> try contradiction
  rename_i hc
  obtain ⟨h0, hnk, hl0, hlc, hc63, hby⟩ := hc
  simp only [Option.some.injEq, Prod.mk.injEq] at hm
  obtain ⟨rfl, rfl⟩ := hm
  cases hl.lit_inv; cases hr.lit_inv
  have hrun := run_make (P := P) w t e i2 ei.zeroVal hk.slice hk2.info hk2.zero k1 k2 l0 c0 hl0 hlc (by rw [hk2.bytes, Int.mul_comm]; exact hby) (by omega)
  rw [hk2.size] at hrun
  obtain ⟨z1, z2, z3, z4, z5⟩ := zeroV_cells hk2
  have hmk := h.make hk0 hnk (kfT ei.td) h0 (C := c0.toNat) (es := List.replicate l0.toNat ei.zeroV) (by simp; omega) (cs := madeCells ei.zeroVal.cells (c0.toNat * ei.size)) (by simp [size_madeCells]) e (fun j x hx => by
    have hj := (List.getElem?_eq_some_iff.1 hx).1
    simp only [List.length_replicate] at hj
    have hx' : x = ei.zeroV := by
      rw [List.getElem?_replicate, if_pos hj] at hx; exact (Option.some.inj hx).symm
    subst hx'
    exact ⟨z1, fun c y hy => made_rep hk2 (by
      have := Nat.mul_le_mul_right ei.size (show j + 1 ≤ c0.toNat by omega)
      rw [Nat.add_mul] at this; omega) hy⟩)
  exact ⟨_, _, _, hrun, hmk, .ls (Places.set_self _ _ _) rfl (by omega) (by simp) (fun _ => by simp)⟩

/-- The parts of a row that is written out. -/
theorem putParts_sound {n : Nat} {ρ : Operand → Value} {μ : Operand → V} : ∀ (parts : List (Nat × Operand)) {F : Cells} {cur : Store} (_ : Inv c F pl { st with ob := cur } a w) (_ : Frozen st.ob cur) {es : List V} {ca : Array Value} {es' : List V} {ups : List (Key × Obj)},
    (∀ x, RepV F (memOf w) pl (μ x) (ρ x)) → ca.size = es.length * n →
    (∀ (j : Nat) x, es[j]? = some x → x.cells.length = n ∧ ∀ (c : Nat) y, x.cells[c]? = some y → scal y = true ∧ ∃ cv, ca[j * n + c]? = some cv ∧ RepV F (memOf w) noPl y cv) →
    putParts n st.ob es (parts.map fun p => (p.1, μ p.2)) = some (es', ups) →
    ∃ F' ca', Instr.fill (fun i => some (i * n, n)) ca (parts.map fun p => (p.1, ρ p.2)) = some ca' ∧ Inv c F' pl { st with ob := cur.sets ups } a w ∧ es'.length = es.length ∧ ca'.size = es'.length * n ∧
      (∀ (j : Nat) x, es'[j]? = some x → x.cells.length = n ∧ ∀ (c : Nat) y, x.cells[c]? = some y → scal y = true ∧ ∃ cv, ca'[j * n + c]? = some cv ∧ RepV F' (memOf w) noPl y cv) := by
  intro parts
  induction parts with
  | nil =>
    intro F cur h hcur es ca es' ups _ hs hr hp
    simp only [List.map_nil, putParts, Option.some.injEq, Prod.mk.injEq] at hp
    obtain ⟨rfl, rfl⟩ := hp
    exact ⟨F, ca, rfl, h, rfl, hs, hr⟩
  | cons p ps ih =>
    intro F cur h hcur es ca es' ups hρ hs hr hp
    obtain ⟨i, x⟩ := p
    simp only [List.map_cons, putParts] at hp
    split at hp <;> try contradiction
    rename_i hc
    obtain ⟨hi, hok⟩ := hc
    obtain ⟨ok1, ok2⟩ := okE_iff.1 hok
    split at hp <;> try contradiction
    rename_i x' u hx'
    split at hp <;> try contradiction
    rename_i es2 us hrest
    simp only [Option.some.injEq, Prod.mk.injEq] at hp
    obtain ⟨rfl, rfl⟩ := hp
    obtain ⟨F1, j1, j2, j3, j4, j5, j6⟩ := frz_sound h hcur (hρ x) ok2 hx'
    obtain ⟨vc, v1, v2, v3⟩ := rep_cells j6 j5
    have hv : vc.size = n := by rw [v2, j4, ok1]
    have hfit : i * n + vc.size ≤ ca.size := by
      rw [hv, hs]
      have := Nat.mul_le_mul_right n (show i + 1 ≤ es.length by omega)
      rw [Nat.add_mul] at this; omega
    obtain ⟨f1, f2⟩ := fold_put (i * n) vc ca hfit
    have hF1 : ∀ b o, F b o → F1 b o ∧ memOf w b o = memOf w b o := fun b o hb => ⟨j3 b o hb, rfl⟩
    obtain ⟨F2, ca2, g1, g2, g3, g4, g5⟩ := ih j1 j2 (es := es.set i x') (ca := vc.zipIdx.foldl (fun cs (c, j) => cs.setIfInBounds (i * n + j) c) ca) (fun y => (hρ y).mono hF1 (fun _ _ h => h)) (by rw [f1]; simpa using hs) (fun j y hy => by
      rw [List.getElem?_set] at hy
      by_cases hij : i = j
      · subst hij
        have hy : x' = y := by simpa [hi] using hy
        subst hy
        refine ⟨by rw [j4, ok1], fun c z hz => ?_⟩
        have hcz := (List.getElem?_eq_some_iff.1 hz).1
        have hcz' : c < vc.size := by omega
        refine ⟨all_get j5 hz, vc[c], ?_, v3 c z hcz' hz⟩
        rw [f2, if_pos ⟨by omega, by omega⟩]
        simp [hcz']
      · rw [if_neg hij] at hy
        obtain ⟨r1, r2⟩ := hr j y hy
        refine ⟨r1, fun c z hz => ?_⟩
        obtain ⟨s1, cv, s2, s3⟩ := r2 c z hz
        refine ⟨s1, cv, ?_, s3.mono hF1 (fun _ _ h => h)⟩
        have hcz := (List.getElem?_eq_some_iff.1 hz).1
        rw [f2, if_neg ?_]
        · exact s2
        · rw [hv]
          rcases Nat.lt_or_ge j i with g | g
          · have := Nat.mul_le_mul_right n (show j + 1 ≤ i by omega)
            rw [Nat.add_mul] at this; omega
          · have := Nat.mul_le_mul_right n (show i + 1 ≤ j by omega)
            rw [Nat.add_mul] at this; omega) hrest
    refine ⟨F2, ca2, ?_, by rw [Store.sets_append]; exact g2, by rw [g3]; simp, g4, g5⟩
    simp only [List.map_cons, Instr.fill, v1]
    rw [if_neg (by simp; omega)]
    exact g1

theorem buildSlice_sound (htt : TTok P tt) (h : Inv c F pl st a w) {nk : Key} (hk0 : nk.1 ≠ 0) {t : TypeId} {len : Nat} {parts : Array (Nat × Operand)} {ρ : Operand → Value} {μ : Operand → V} (hρ : ∀ x, RepV F (memOf w) pl (μ x) (ρ x)) {v : V} {ups : List (Key × Obj)}
    (hnm : ∀ p ∈ parts.toList, nk ∉ (μ p.2).ments) (hm : buildSliceF tt nk st.ob t len (parts.toList.map fun p => (p.1, μ p.2)) = some (v, ups)) :
    ∃ F' pl' w' cv, (Instr.buildSlice t len (parts.map fun (i, x) => (i, ρ x))).run P w = .ok cv w' ∧ Inv c F' pl' { st with ob := st.ob.sets ups } a w' ∧ RepV F' (memOf w') pl' v cv := by
  unfold buildSliceF at hm
  split at hm <;> try contradiction
  rename_i e _ _ _ hts
  obtain ⟨i, d, hk⟩ := htt.get hts
  split at hm <;> try contradiction
  rename_i ei hte
  obtain ⟨i2, d2, hk2⟩ := htt.get hte
  split at hm <;> try contradiction
  rename_i hc
  obtain ⟨h0, hlen, hnk⟩ := hc
  split at hm <;> try contradiction
  rename_i es us hput
  simp only [Option.some.injEq, Prod.mk.injEq] at hm
  obtain ⟨rfl, rfl⟩ := hm
  obtain ⟨z1, z2, z3, z4, z5⟩ := zeroV_cells hk2
  have hst0 : ({ st with ob := st.ob } : St) = st := rfl
  obtain ⟨F1, ca1, g1, g2, g3, g4, g5⟩ := putParts_sound (st := st) parts.toList (cur := st.ob) (by rw [hst0]; exact h) (fun k => .inl rfl) (es := List.replicate len ei.zeroV) (ca := madeCells ei.zeroVal.cells (len * ei.size)) hρ (by simp [size_madeCells])
    (fun j x hx => by
      have hj := (List.getElem?_eq_some_iff.1 hx).1
      simp only [List.length_replicate] at hj
      have hx' : x = ei.zeroV := by
        rw [List.getElem?_replicate, if_pos hj] at hx; exact (Option.some.inj hx).symm
      subst hx'
      exact ⟨z1, fun c y hy => made_rep hk2 (by
        have := Nat.mul_le_mul_right ei.size (show j + 1 ≤ len by omega)
        rw [Nat.add_mul] at this; omega) hy⟩) hput
  have hkeys : ∀ u ∈ us, u.1 ≠ nk := by
    have gen : ∀ (ps : List (Nat × V)) {es es' : List V} {us : List (Key × Obj)}, (∀ p ∈ ps, nk ∉ p.2.ments) → putParts ei.size st.ob es ps = some (es', us) → ∀ u ∈ us, u.1 ≠ nk := by
      intro ps
      induction ps with
      | nil => intro es es' us _ h; simp only [putParts, Option.some.injEq, Prod.mk.injEq] at h; intro u hu; rw [← h.2] at hu; cases hu
      | cons p ps ih =>
        intro es es' us hn h
        obtain ⟨i, x⟩ := p
        simp only [putParts] at h
        split at h <;> try contradiction
        split at h <;> try contradiction
        rename_i x' u hx'
        split at h <;> try contradiction
        rename_i es2 us2 hr
        simp only [Option.some.injEq, Prod.mk.injEq] at h
        obtain ⟨_, rfl⟩ := h
        intro v hv
        rcases List.mem_append.1 hv with hv | hv
        · intro e; exact hn (i, x) (by simp) (e ▸ frz_keys hx' v hv)
        · exact ih (fun p hp => hn p (by simp [hp])) hr v hv
    exact gen _ (fun p hp => by
      obtain ⟨q, hq, rfl⟩ := List.mem_map.1 hp
      exact hnm q hq) hput
  have hesl : es.length = len := by rw [g3]; simp
  have hmk := g2.make (k := nk) hk0 (by show st.ob.sets us nk = none; rw [sets_ne hkeys]; exact hnk) true h0 (C := len) (es := es) (by omega) (cs := ca1) (by rw [g4, hesl]) e (fun j x hx => by
    obtain ⟨r1, r2⟩ := g5 j x hx
    exact ⟨r1, fun c y hy => r2 c y hy⟩)
  refine ⟨F1, _, _, .slice (some ⟨w.heap.size, 0, none⟩) len len, ?_, by rw [Store.sets_append]; exact hmk, .ls (Places.set_self _ _ _) rfl (Nat.le_refl _) (by simp) (fun _ => by simp)⟩
  have hpl : (parts.map fun x => (x.1, ρ x.2)).toList = parts.toList.map fun p => (p.1, ρ p.2) := by simp
  have hbig : ¬ (len * ei.size > 2 ^ 24) := by omega
  have hmade : ∀ z : Array Value, (Array.range (len * ei.size)).map (z[· % z.size]!) = madeCells z (len * ei.size) := fun _ => rfl
  simp only [Instr.buildSlice, Sem.run_bind, run_underlying hk.slice, Result.andThen, hk2.sizeOf]
  rw [if_neg hbig]
  by_cases hz : len * ei.size = 0
  · have hm0 : ∀ z, madeCells z 0 = #[] := fun z => by simp [madeCells]
    have hm1 : (Array.range 0).map ((#[] : Array Value)[· % (#[] : Array Value).size]!) = #[] := hm0 _
    rw [hz, hm0] at g1
    simp only [hz, if_true, Sem.run_bind, Sem.run_pure, Result.andThen, hm1, hpl, g1]
    rfl
  · simp [hz, hk2.zeroValue, hmade, g1, newRow]

/-- Some elements of a row are written anew. -/
theorem splice_sound (h : Inv c F pl st a w) {k : Key} {n : Nat} {es : List V} {p : Pl} (hob : st.ob k = some (.arr true n es)) (hp : pl k = some p) {i : Nat} {xs : List V} (hi : i + xs.length ≤ es.length) {news : List Value} (hl : news.length = xs.length * n)
    (hlen : ∀ (j : Nat) x, xs[j]? = some x → x.cells.length = n)
    (hnews : ∀ (j : Nat) x (c : Nat) y, xs[j]? = some x → x.cells[c]? = some y → scal y = true ∧ ∃ cv, news[j * n + c]? = some cv ∧ RepV F (memOf w) noPl y cv) :
    Inv c F pl { st with ob := st.ob.set k (.arr true n (es.take i ++ xs ++ es.drop (i + xs.length))) } a (w.setCells p.b (p.base + i * n) news) ∧
      (∀ j, j < news.length → (memOf w p.b (p.base + i * n + j)).isSome ∧ ¬ frozOf w p.b (p.base + i * n + j)) := by
  obtain ⟨q, hq, r1, r2, r3, r4, r5⟩ := live_row h.wr hob
  cases hp.symm.trans hq
  have hin : ∀ j, j < news.length → p.has p.b (p.base + i * n + j) := by
    intro j hj
    rw [hl] at hj
    refine ⟨rfl, by omega, ?_⟩
    have := Nat.mul_le_mul_right n (show i + xs.length ≤ p.C by omega)
    rw [Nat.add_mul] at this
    rw [r1]; omega
  have hsome : ∀ j, j < news.length → (memOf w p.b (p.base + i * n + j)).isSome := fun j hj => (r5 _ (hin j hj)).1
  refine ⟨?_, fun j hj => ⟨(r5 _ (hin j hj)).1, (r5 _ (hin j hj)).2.1⟩⟩
  refine h.rewrite hob hp (same_setCells hin) (fun o ho => setCells_exists hsome ⟨(r5 o ho).1, (r5 o ho).2.1⟩) (by simp; omega) (fun j x hx => ?_)
  have old : ∀ x, es[j]? = some x → (j < i ∨ i + xs.length ≤ j) → x.cells.length = n ∧ ∀ (c : Nat) y, x.cells[c]? = some y → scal y = true ∧
      ∃ cv, memOf (w.setCells p.b (p.base + i * n) news) p.b (p.base + j * n + c) = some cv ∧ RepV F (memOf w) (Obj.plc true pl) y cv := by
    intro x hx hj
    obtain ⟨u1, u2⟩ := r4 j x hx
    refine ⟨u1, fun c y hy => ?_⟩
    obtain ⟨t1, cv, t2, t3⟩ := u2 c y hy
    refine ⟨t1, cv, ?_, t3⟩
    rw [← t2]
    have hc := (List.getElem?_eq_some_iff.1 hy).1
    rw [u1] at hc
    refine setCells_out ?_
    rw [hl]
    rcases hj with g | g
    · left
      have := Nat.mul_le_mul_right n (show j + 1 ≤ i by omega)
      rw [Nat.add_mul] at this; omega
    · right
      have := Nat.mul_le_mul_right n g
      rw [Nat.add_mul] at this; omega
  by_cases h1 : j < i
  · rw [List.append_assoc, List.getElem?_append_left (by simp; omega), List.getElem?_take, if_pos h1] at hx
    exact old x hx (.inl h1)
  · by_cases h2 : j < i + xs.length
    · rw [List.append_assoc, List.getElem?_append_right (by simp; omega), List.getElem?_append_left (by simp; omega)] at hx
      have hji : j - (es.take i).length = j - i := by simp; omega
      rw [hji] at hx
      refine ⟨hlen _ x hx, fun c y hy => ?_⟩
      obtain ⟨t1, cv, t2, t3⟩ := hnews _ x c y hx hy
      refine ⟨t1, cv, ?_, by simpa [Obj.plc] using t3⟩
      have := setCells_in hsome t2
      rw [← this]; congr 1
      rw [Nat.sub_mul]
      have := Nat.mul_le_mul_right n (show i ≤ j by omega)
      omega
    · rw [List.getElem?_append_right (by simp; omega), List.getElem?_drop] at hx
      refine old x ?_ (.inr (by omega))
      rw [← hx]; congr 1; simp; omega

theorem copy_sound (h : Inv c F pl st a w) {t tx ty e : TypeId} {ei : TI} {i : TypeInfo} {d : TypeDesc} (ht : P.underlying t = some (.slice e)) (he : TOk P e ei i d) (hn : 0 < ei.size)
    (hk : ∃ e', P.underlying tx = some (.slice e')) {s x : V} {cs cx : Value} (hs : RepV F (memOf w) pl s cs) (hx : RepV F (memOf w) pl x cx) {xs : List V}
    (hxs : srcV st.ob ei.size false x = some xs) {v : V} {ups : List (Key × Obj)} (hc : copyF ei st.ob xs s = some (v, ups)) :
    ∃ w' cv, (Builtin.copy_ #[t, tx] ty #[cs, cx]).run P w = .ok cv w' ∧ Inv c F pl { st with ob := st.ob.sets ups } a w' ∧ RepV F (memOf w') pl v cv := by
  obtain ⟨news, hsrc, hlen, hnews, hfc⟩ := src_sound h.wr hn (.inl ⟨rfl, hk⟩) hx hxs
  unfold copyF at hc
  split at hc <;> try contradiction
  rename_i k n i0 len
  split at hc <;> try contradiction
  rename_i n' es hob
  split at hc <;> try contradiction
  rename_i hcond
  obtain ⟨rfl, rfl, hle⟩ := hcond
  simp only [Option.some.injEq, Prod.mk.injEq] at hc
  obtain ⟨rfl, rfl⟩ := hc
  obtain ⟨p, ad, cap, hp, hpn, hlc, hic, had, rfl⟩ := hs.ls_inv
  have hm : Nat.min xs.length len ≤ xs.length := Nat.min_le_left _ _
  have hm2 : Nat.min xs.length len ≤ len := Nat.min_le_right _ _
  generalize hmm : Nat.min xs.length len = m at *
  have hxl : (xs.take m).length = m := by simp; omega
  obtain ⟨g1, g2⟩ := splice_sound h hob hp (i := i0) (xs := xs.take m) (by rw [hxl]; omega) (news := news.take (m * ei.size)) (by
      rw [hxl, List.length_take, hsrc.newsLen]
      exact Nat.min_eq_left (Nat.mul_le_mul_right _ hm))
    (fun j x hx => by
      rw [List.getElem?_take] at hx
      split at hx
      · exact hlen j x hx
      · cases hx) (fun j x c y hx hy => by
      rw [List.getElem?_take] at hx
      split at hx
      · rename_i hj
        obtain ⟨t1, cv, t2, t3⟩ := hnews j x c y hx hy
        refine ⟨t1, cv, ?_, t3⟩
        have hcc := (List.getElem?_eq_some_iff.1 hy).1
        rw [hlen j x hx] at hcc
        have := Nat.mul_le_mul_right ei.size (show j + 1 ≤ m by omega)
        rw [Nat.add_mul] at this
        rw [List.getElem?_take, if_pos (by omega)]
        exact t2
      · cases hx)
  rw [hxl] at g1
  have hone : ∀ v ∈ news.take (m * ei.size), v.oneCell' = true := fun v hv => hsrc.one v (List.mem_of_mem_take hv)
  have hst := run_storeCells_cells (P := P) p.b (p.base + i0 * ei.size) (news.take (m * ei.size)) 0 w (fun j hj => by have := (g2 j hj).1; rwa [Nat.add_zero]) (fun j hj => by
    have := (g2 j hj).2
    simpa [frozOf] using this) hone
  simp only [Nat.add_zero] at hst
  have hsz : (P.info? e).map (·.size) = some ei.size := by rw [he.info]; simp [he.size]
  by_cases hcap : cap = 0
  · have hm0 : m = 0 := by omega
    subst hm0
    simp only [Nat.zero_mul, List.take_zero] at g1 hst
    refine ⟨w, .int .i64 0, ?_, by simpa [World.setCells, Store.sets] using g1, .lit⟩
    have h0 := hfc rfl 0 (Nat.zero_le _)
    simp only [Nat.zero_mul, List.take_zero] at h0
    simp [Builtin.copy_, run_underlying ht, hsrc.len, hmm, sizeOf, typeInfo, he.info, he.size, h0, storeCells, goInt]
  · have had' := had hcap
    subst had'
    refine ⟨_, .int .i64 m, ?_, g1, .lit⟩
    have h0 := hfc rfl m hm
    simp [Builtin.copy_, run_underlying ht, hsrc.len, hmm, sizeOf, typeInfo, he.info, he.size, h0, hst, goInt]

theorem clear_sound (h : Inv c F pl st a w) {t ty e : TypeId} {ei : TI} {i : TypeInfo} {d : TypeDesc} (ht : P.underlying t = some (.slice e)) (he : TOk P e ei i d) {s : V} {cs : Value} (hs : RepV F (memOf w) pl s cs)
    {ups : List (Key × Obj)} (hc : clearF ei st.ob s = some ups) :
    ∃ w', (Builtin.clear_ #[t] ty #[cs]).run P w = .ok (.tuple #[]) w' ∧ Inv c F pl { st with ob := st.ob.sets ups } a w' := by
  unfold clearF at hc
  split at hc <;> try contradiction
  · rename_i k n i0 len
    split at hc <;> try contradiction
    rename_i n' es hob
    split at hc <;> try contradiction
    rename_i hcond
    obtain ⟨rfl, rfl, hle⟩ := hcond
    simp only [Option.some.injEq] at hc
    subst hc
    obtain ⟨p, ad, cap, hp, hpn, hlc, hic, had, rfl⟩ := hs.ls_inv
    obtain ⟨z1, z2, z3, z4, z5⟩ := zeroV_cells he
    have hzc : ∀ q, q < len * ei.size → (madeCells ei.zeroVal.cells (len * ei.size)).toList[q]? = some (ei.zeroVal.cells[q % ei.size]!) := by
      intro q hq
      have := madeCells_get (z := ei.zeroVal.cells) hq
      rw [z4] at this
      simpa using this
    obtain ⟨g1, g2⟩ := splice_sound h hob hp (i := i0) (xs := List.replicate len ei.zeroV) (by simpa using hle) (news := (madeCells ei.zeroVal.cells (len * ei.size)).toList) (by simp [size_madeCells])
      (fun j x hx => by
        have hj := (List.getElem?_eq_some_iff.1 hx).1
        simp only [List.length_replicate] at hj
        rw [List.getElem?_replicate, if_pos hj] at hx; cases hx; exact z1) (fun j x c y hx hy => by
        have hj := (List.getElem?_eq_some_iff.1 hx).1
        simp only [List.length_replicate] at hj
        rw [List.getElem?_replicate, if_pos hj] at hx; cases hx
        obtain ⟨t1, cv, t2, t3⟩ := made_rep (F := F) (m := memOf w) he (N := len * ei.size) (j := j) (by
          have := Nat.mul_le_mul_right ei.size (show j + 1 ≤ len by omega)
          rw [Nat.add_mul] at this; omega) hy
        exact ⟨t1, cv, by simpa using t2, t3⟩)
    simp only [List.length_replicate] at g1
    have hzz : Builtin.zeroCells ei.zeroVal.cells len = madeCells ei.zeroVal.cells (len * ei.size) := by
      simp [Builtin.zeroCells, madeCells, z4]
    have hone : ∀ v ∈ (madeCells ei.zeroVal.cells (len * ei.size)).toList, v.oneCell' = true := by
      intro v hv
      obtain ⟨q, hq, e⟩ := List.getElem_of_mem hv
      simp only [Array.length_toList, size_madeCells] at hq
      obtain ⟨j, cc, hj, hcc, rfl⟩ := divMod (show 0 < ei.size by
        rcases Nat.eq_zero_or_pos ei.size with h0 | h0
        · rw [h0] at hq; simp at hq
        · exact h0) hq
      have hy := List.getElem?_eq_getElem (l := ei.zeroV.cells) (i := cc) (by omega)
      obtain ⟨t1, cv, t2, t3⟩ := made_rep (pq := noPl) (F := F) (m := memOf w) he (N := len * ei.size) (j := j) (by
          have := Nat.mul_le_mul_right ei.size (show j + 1 ≤ len by omega)
          rw [Nat.add_mul] at this; omega) hy
      obtain ⟨s1, s2⟩ := Array.getElem?_eq_some_iff.1 t2
      have : v = cv := by rw [← e, ← s2]; simp
      rw [this]; exact (rep_one t3 t1).1
    have hst := run_storeCells_cells (P := P) p.b (p.base + i0 * ei.size) (madeCells ei.zeroVal.cells (len * ei.size)).toList 0 w (fun j hj => by have := (g2 j hj).1; rwa [Nat.add_zero]) (fun j hj => by
      have := (g2 j hj).2
      simpa [frozOf] using this) hone
    simp only [Nat.add_zero] at hst
    by_cases hl0 : len = 0
    · subst hl0
      refine ⟨w, ?_, by simpa [World.setCells, Store.sets, madeCells, Array.range_zero'] using g1⟩
      simp [Builtin.clear_, run_underlying ht]
    · have had' := had (by omega)
      subst had'
      refine ⟨_, ?_, g1⟩
      cases len with
      | zero => exact absurd rfl hl0
      | succ len => simp [Builtin.clear_, run_underlying ht, he.zeroValue, hzz, hst]
  · cases hs.lit_inv
    simp only [Option.some.injEq] at hc; subst hc
    exact ⟨w, by simp [Builtin.clear_, run_underlying ht], h⟩
  · obtain ⟨ad, rfl⟩ := hs.e0_inv
    simp only [Option.some.injEq] at hc; subst hc
    cases ad <;> exact ⟨w, by simp [Builtin.clear_, run_underlying ht], h⟩
end
end Go.Eng
