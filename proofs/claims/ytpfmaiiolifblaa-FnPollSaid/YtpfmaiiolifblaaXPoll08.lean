/- A machine of values for the program's code, part 9: append. -/
import Derived.Test.YtpfmaiiolifblaaXPoll07
namespace Go.Eng
open Go.RowKit

/-- What an append may come to. -/
def roomOk (total bytes : Nat) : Prop := total * bytes ≤ 140737488355328 ∧ total ≤ 140737488351232
instance (total bytes : Nat) : Decidable (roomOk total bytes) := by unfold roomOk; exact inferInstance

def mentsOne : V → List Key
  | .ls k _ _ _ => [k]
  | _ => []

def appendV (ei : TI) (nk : Key) (get : Store) (xs : List V) (s x : V) : Option (V × List (Key × Obj)) :=
  if ei.size = 0 then none else
  match s with
  | .lit (.slice none 0 0) => if xs = [] then some (nilV, []) else if roomOk xs.length ei.bytes ∧ get nk = none then some (.ls nk ei.size 0 xs.length, [(nk, .arr true ei.size xs)]) else none
  | .e0 => if xs = [] then some (.e0, []) else if roomOk xs.length ei.bytes ∧ get nk = none then some (.ls nk ei.size 0 xs.length, [(nk, .arr true ei.size xs)]) else none
  | .ls k n i len => match get k with
    | some (.arr true n' es) =>
      if n = ei.size ∧ n' = ei.size ∧ i + len ≤ es.length ∧ roomOk (len + xs.length) ei.bytes ∧ get nk = none ∧ k ∉ mentsOne x then
        some (.ls nk ei.size 0 (len + xs.length), [(k, .dead), (nk, .arr true ei.size ((es.drop i).take len ++ xs))])
      else none
    | _ => none
  | _ => none

section
variable {P : Program} {tt : TT}

theorem RowCells.app {F : Cells} {m : Mem} {n : Nat} {es xs : List V} {olds news : List Value} (hol : olds.length = es.length * n)
    (h1 : ∀ (j : Nat) e (c : Nat) y, es[j]? = some e → e.cells[c]? = some y → scal y = true ∧ ∃ cv, olds[j * n + c]? = some cv ∧ RepV F m noPl y cv)
    (h2 : ∀ (j : Nat) e (c : Nat) y, xs[j]? = some e → e.cells[c]? = some y → scal y = true ∧ ∃ cv, news[j * n + c]? = some cv ∧ RepV F m noPl y cv) :
    ∀ (j : Nat) e (c : Nat) y, (es ++ xs)[j]? = some e → e.cells[c]? = some y → scal y = true ∧ ∃ cv, (olds ++ news)[j * n + c]? = some cv ∧ RepV F m noPl y cv := by
  intro j e c y he hy
  by_cases hj : j < es.length
  · rw [List.getElem?_append_left hj] at he
    obtain ⟨g1, cv, g2, g3⟩ := h1 j e c y he hy
    exact ⟨g1, cv, by rw [List.getElem?_append_left (List.getElem?_eq_some_iff.1 g2).1]; exact g2, g3⟩
  · rw [List.getElem?_append_right (by omega)] at he
    obtain ⟨g1, cv, g2, g3⟩ := h2 _ e c y he hy
    refine ⟨g1, cv, ?_, g3⟩
    have : es.length * n ≤ j * n := Nat.mul_le_mul_right _ (by omega)
    rw [List.getElem?_append_right (by omega), hol, ← g2]
    congr 1
    rw [Nat.sub_mul]; omega

/-- A row that grew into new memory. -/
theorem Inv.grown {c : Ctx} {F : Cells} {pl : Places} {st : St} {a : Act} {w : World} (h : Inv c F pl st a w) {k : Key} (hk0 : k.1 ≠ 0) (hk : st.ob k = none) {n : Nat} (hn : 0 < n) {es : List V} {C : Nat} (hC : es.length ≤ C)
    {L : List Value} (hL : L.length = es.length * n) {z : Array Value} (hz : z.size = n) (e : TypeId) (hlen : ∀ (j : Nat) x, es[j]? = some x → x.cells.length = n)
    (hr : ∀ (j : Nat) x (c : Nat) y, es[j]? = some x → x.cells[c]? = some y → scal y = true ∧ ∃ cv, L[j * n + c]? = some cv ∧ RepV F (memOf w) noPl y cv) :
    Inv c F (pl.set k ⟨w.heap.size, 0, n, C⟩) { st with ob := st.ob.set k (.arr true n es) } a (w.drew.alloc (.cells (L.toArray ++ Builtin.zeroCells z (C - es.length)) e)) := by
  have := (h.grow (same_drew w)).make hk0 hk true hn (C := C) (es := es) hC (cs := L.toArray ++ Builtin.zeroCells z (C - es.length)) (by
    simp only [Array.size_append, List.size_toArray, size_zeroCells, hz, hL]
    rw [← Nat.add_mul]; congr 1; omega) e (fun j x hx => ⟨hlen j x hx, fun c y hy => by
      obtain ⟨g1, cv, g2, g3⟩ := hr j x c y hx hy
      refine ⟨g1, cv, ?_, g3⟩
      have := (List.getElem?_eq_some_iff.1 g2).1
      rw [Array.getElem?_append_left (by simpa using this)]
      simpa using g2⟩)
  exact this

theorem setCells_frame (b : Nat) : ∀ (vs : List Value) (o : Nat) (w : World), (w.setCells b o vs).os = w.os ∧ (w.setCells b o vs).tape = w.tape ∧ (w.setCells b o vs).output = w.output ∧ (w.setCells b o vs).heap.size = w.heap.size
  | [], _, _ => ⟨rfl, rfl, rfl, rfl⟩
  | v :: r, o, w => by
    obtain ⟨h1, h2, h3, h4⟩ := setCells_frame b r (o + 1) (w.setCell ⟨b, o, none⟩ v)
    simp only [World.setCells]
    exact ⟨h1, h2, h3, by rw [h4]; simp [World.setCell]⟩

theorem heap_setCells_ne {b b' : Nat} (hb : b' ≠ b) : ∀ (vs : List Value) (o : Nat) (w : World), (w.setCells b o vs).heap[b']? = w.heap[b']?
  | [], _, _ => rfl
  | v :: vs, o, w => by
    simp only [World.setCells]
    rw [heap_setCells_ne hb vs]
    simp only [World.setCell]
    rw [Array.getElem?_modify]
    rw [if_neg (fun e => hb e.symm)]

theorem same_setCells {w : World} {b o : Nat} {vs : List Value} {p : Pl} (hin : ∀ j, j < vs.length → p.has b (o + j)) : Same p.has w (w.setCells b o vs) := by
  obtain ⟨h1, h2, h3, h4⟩ := setCells_frame b vs o w
  refine ⟨h1, h2, h3, Nat.le_of_eq h4.symm, fun b' o' _ hno => ?_, fun b' o' _ _ => ?_, fun b' _ hno => ?_⟩
  · refine World.cell?_setCells_out _ _ _ _ _ (fun hb _ => ?_)
    simp only at hb
    subst hb
    rcases Nat.lt_or_ge o' o with g | g
    · exact .inl g
    · rcases Nat.lt_or_ge o' (o + vs.length) with g' | g'
      · exact absurd (by have := hin (o' - o) (by omega); rwa [show o + (o' - o) = o' by omega] at this) hno
      · exact .inr g'
  · show (w.setCells b o vs).frozen? _ = true ↔ _
    rw [World.frozen?_setCells]; exact Iff.rfl
  · cases vs with
    | nil => rfl
    | cons v vs =>
      have hb : b' ≠ b := fun e => by subst e; exact hno _ (hin 0 (by simp))
      exact heap_setCells_ne hb _ _ _

theorem setCells_in {w : World} {b o : Nat} {vs : List Value} (h : ∀ j, j < vs.length → (memOf w b (o + j)).isSome) {j : Nat} {v : Value} (hv : vs[j]? = some v) : memOf (w.setCells b o vs) b (o + j) = some v := by
  obtain ⟨g1, g2⟩ := List.getElem?_eq_some_iff.1 hv
  have := World.cell?_setCells_in b vs o w h j g1
  show (w.setCells b o vs).cell? _ = _
  rw [this, g2]

theorem setCells_out {w : World} {b o : Nat} {vs : List Value} {q : Nat} (h : q < o ∨ o + vs.length ≤ q) : memOf (w.setCells b o vs) b q = memOf w b q :=
  World.cell?_setCells_out _ _ _ _ _ (fun _ _ => h)

theorem setCells_exists {w : World} {b o : Nat} {vs : List Value} {y : Nat} (hs : ∀ j, j < vs.length → (memOf w b (o + j)).isSome) (h : (memOf w b y).isSome ∧ ¬ frozOf w b y) :
    (memOf (w.setCells b o vs) b y).isSome ∧ ¬ frozOf (w.setCells b o vs) b y := by
  refine ⟨?_, ?_⟩
  · rcases Nat.lt_or_ge y o with g | g
    · rw [setCells_out (.inl g)]; exact h.1
    · rcases Nat.lt_or_ge y (o + vs.length) with g' | g'
      · have := setCells_in hs (j := y - o) (List.getElem?_eq_getElem (by omega))
        rw [show o + (y - o) = y by omega] at this
        rw [this]; rfl
      · rw [setCells_out (.inr g')]; exact h.1
  · show ¬ (w.setCells b o vs).frozen? _ = true
    rw [World.frozen?_setCells]; exact h.2

/-- What is known of the thing that is appended. -/
structure ASrc (P : Program) (t tx ty e : TypeId) (i : TypeInfo) (z : Value) (size : Nat) (x : Value) (n : Nat) (news : List Value) (w : World) : Prop where
  newsLen : news.length = n * size
  nothing : n = 0 → news = [] → ∀ (base : Option Addr) (sLen sCap : Nat), sLen ≤ sCap → (Builtin.append_ #[t, tx] ty #[.slice base sLen sCap, x]).run P w = .ok (.slice base sLen sCap) w
  room : ∀ (b off sLen sCap : Nat), sLen + n ≤ sCap → (∀ j, j < news.length → (w.cell? ⟨b, off + sLen * size + j, none⟩).isSome = true) → (∀ j, j < news.length → w.frozen? ⟨b, off + sLen * size + j, none⟩ = false) →
    (Builtin.append_ #[t, tx] ty #[.slice (some ⟨b, off, none⟩) sLen sCap, x]).run P w = .ok (.slice (some ⟨b, off, none⟩) (sLen + n) sCap) (w.setCells b (off + sLen * size) news)
  grow : ∀ (base : Option Addr) (sLen sCap : Nat) (olds : List Value), (Builtin.firstCells size sLen (.slice base sLen sCap)).run P w.drew = .ok olds.toArray w.drew → sCap < sLen + n → ((sLen + n : Nat) : Int) ≤ 9223372036854775807 →
    Builtin.nextslicecap (sLen + n) sCap * i.bytes ≤ 281474976710656 → (Builtin.append_ #[t, tx] ty #[.slice base sLen sCap, x]).run P w =
      .ok (.slice (some ⟨w.heap.size, 0, none⟩) (sLen + n) (grownCap w (sLen + n) sCap e))
        (w.drew.alloc (.cells ((olds ++ news).toArray ++ Builtin.zeroCells z.cells (grownCap w (sLen + n) sCap e - (sLen + n))) e))

theorem append_core {c : Ctx} {F : Cells} {pl : Places} {st : St} {a : Act} {w : World} (h : Inv c F pl st a w) {nk : Key} (hk0 : nk.1 ≠ 0) {t tx ty e : TypeId} {ei : TI} {i : TypeInfo} {d : TypeDesc}
    (he : TOk P e ei i d) {s x : V} {cs cx : Value} (hs : RepV F (memOf w) pl s cs) {xs : List V} {news : List Value} (hsrc : ASrc P t tx ty e i ei.zeroVal ei.size cx xs.length news w)
    (hlen : ∀ (j : Nat) y, xs[j]? = some y → y.cells.length = ei.size)
    (hnews : ∀ (j : Nat) e (c : Nat) y, xs[j]? = some e → e.cells[c]? = some y → scal y = true ∧ ∃ cv, news[j * ei.size + c]? = some cv ∧ RepV F (memOf w) noPl y cv) {v : V} {ups : List (Key × Obj)}
    (hap : appendV ei nk st.ob xs s x = some (v, ups)) :
    ∃ F' pl' w' cv, (Builtin.append_ #[t, tx] ty #[cs, cx]).run P w = .ok cv w' ∧ Inv c F' pl' { st with ob := st.ob.sets ups } a w' ∧ RepV F' (memOf w') pl' v cv := by
  unfold appendV at hap
  split at hap
  · cases hap
  rename_i hn0
  have hn : 0 < ei.size := by omega
  have hsz : i.size = ei.size := he.size
  have hzc : (ei.zeroVal).cells.size = ei.size := by
    unfold TI.zeroVal
    split
    · have := he.zl; simp [Value.cells, this]
    · rename_i ha
      rw [he.zs ha]
      split
      · rename_i z _; cases z <;> rfl
      · rfl
  -- out of nothing
  have fresh : ∀ (base : Option Addr), (Builtin.firstCells ei.size 0 (.slice base 0 0)).run P w.drew = .ok #[] w.drew → xs ≠ [] → roomOk xs.length ei.bytes → st.ob nk = none →
      ∃ F' pl' w' cv, (Builtin.append_ #[t, tx] ty #[.slice base 0 0, cx]).run P w = .ok cv w' ∧ Inv c F' pl' { st with ob := st.ob.sets [(nk, .arr true ei.size xs)] } a w' ∧ RepV F' (memOf w') pl' (.ls nk ei.size 0 xs.length) cv := by
    intro base hfc hne hroom hnk
    have hpos : 0 < xs.length := List.length_pos_iff.2 hne
    have hrun := hsrc.grow base 0 0 [] hfc (by omega) (by have := hroom.2; omega)
      (growslice_fits (by omega) (by rw [he.bytes]; have := hroom.1; simpa using this))
    have hge := grownCap_ge w (0 + xs.length) 0 e
    have hmk := h.grown hk0 hnk hn (es := xs) (C := grownCap w (0 + xs.length) 0 e) (by omega) (L := news) hsrc.newsLen (z := ei.zeroVal.cells) hzc e hlen hnews
    simp only [List.nil_append, Nat.zero_add] at hrun hmk
    refine ⟨F, _, _, _, hrun, hmk, ?_⟩
    refine .ls (Places.set_self _ _ _) rfl (by simpa using hge) (by simp) (fun _ => by simp)
  split at hap
  · -- nil
    cases hs.lit_inv
    split at hap
    · rename_i hnil
      subst hnil
      simp only [Option.some.injEq, Prod.mk.injEq] at hap
      obtain ⟨rfl, rfl⟩ := hap
      have hnn : news = [] := List.eq_nil_of_length_eq_zero (by rw [hsrc.newsLen]; simp)
      subst hnn
      exact ⟨F, pl, w, _, hsrc.nothing rfl rfl none 0 0 (Nat.le_refl _), h, .lit⟩
    · rename_i hne
      split at hap <;> try contradiction
      rename_i hr
      simp only [Option.some.injEq, Prod.mk.injEq] at hap
      obtain ⟨rfl, rfl⟩ := hap
      exact fresh none (run_firstCells_none w.drew _ _ _ _) hne hr.1 hr.2
  · obtain ⟨ad, rfl⟩ := hs.e0_inv
    split at hap
    · rename_i hnil
      subst hnil
      simp only [Option.some.injEq, Prod.mk.injEq] at hap
      obtain ⟨rfl, rfl⟩ := hap
      have hnn : news = [] := List.eq_nil_of_length_eq_zero (by rw [hsrc.newsLen]; simp)
      subst hnn
      exact ⟨F, pl, w, _, hsrc.nothing rfl rfl ad 0 0 (Nat.le_refl _), h, by cases ad; exact .e0n; exact .e0⟩
    · rename_i hne
      split at hap <;> try contradiction
      rename_i hr
      simp only [Option.some.injEq, Prod.mk.injEq] at hap
      obtain ⟨rfl, rfl⟩ := hap
      cases ad with
      | none => exact fresh none (run_firstCells_none w.drew _ _ _ _) hne hr.1 hr.2
      | some ad => exact fresh (some ad) (run_firstCells_some w.drew _ 0 ad 0 0 [] (by simp) (fun j u hu => by simp at hu)) hne hr.1 hr.2
  · rename_i k n i0 len
    split at hap <;> try contradiction
    rename_i n' es hob
    split at hap <;> try contradiction
    rename_i hc
    obtain ⟨rfl, rfl, hle, hroom, hnk, hkm⟩ := hc
    simp only [Option.some.injEq, Prod.mk.injEq] at hap
    obtain ⟨rfl, rfl⟩ := hap
    obtain ⟨p, ad, cap, hp, hpn, hlc, hic, had, rfl⟩ := hs.ls_inv
    obtain ⟨q, hq, r1, r2, r3, r4, r5⟩ := live_row h.wr hob
    cases hp.symm.trans hq
    have hcut := RowAt.cut r4 i0 len
    obtain ⟨olds, o1, o2, o3, o4⟩ := hcut.list hn
    have hcl : ((es.drop i0).take len).length = len := by simp; omega
    have hlenA : ∀ (j : Nat) y, ((es.drop i0).take len ++ xs)[j]? = some y → y.cells.length = ei.size := by
      intro j y hy
      rw [List.getElem?_append] at hy
      split at hy
      · exact (hcut j y hy).1
      · exact hlen _ y hy
    have hcells := RowCells.app (F := F) (m := memOf w) o1 o4 hnews
    by_cases hrm : len + xs.length ≤ cap
    · -- in its place
      let p' : Pl := ⟨p.b, p.base + i0 * ei.size, ei.size, cap⟩
      have hsub : ∀ b o, p'.has b o → p.has b o := by
        rintro b o ⟨h1, h2, h3⟩
        refine ⟨h1, by simp only [p'] at h2; omega, ?_⟩
        simp only [p'] at h3
        have := Nat.mul_le_mul_right ei.size hic
        rw [Nat.add_mul] at this
        rw [hpn]; omega
      by_cases hcap : cap = 0
      · -- no room and nothing to add
        subst hcap
        have hx0 : xs = [] := List.eq_nil_of_length_eq_zero (by omega)
        have hl0 : len = 0 := by omega
        subst hx0 hl0
        have hnn : news = [] := List.eq_nil_of_length_eq_zero (by rw [hsrc.newsLen]; simp)
        subst hnn
        have hmv := h.moveTo hob hp hk0 hnk (p' := p') (w' := w) (Same.refl _ _) (fun o ho => ⟨(r5 o ho).1, (r5 o ho).2.1⟩) hsub rfl rfl (es' := (es.drop i0).take 0 ++ []) (by simp) (fun j x hx => by simp at hx)
        exact ⟨F, _, w, _, hsrc.nothing rfl rfl (some ad) 0 0 (Nat.le_refl _), hmv,
          .ls (Places.set_self _ _ _) rfl (by simp) (by simp) (fun h => absurd rfl h)⟩
      · have had' := had hcap
        subst had'
        have hin : ∀ j, j < news.length → p.has p.b (p.base + i0 * ei.size + len * ei.size + j) := by
          intro j hj
          rw [hsrc.newsLen] at hj
          refine ⟨rfl, by omega, ?_⟩
          have h1 := Nat.mul_le_mul_right ei.size hic
          have h2 := Nat.mul_le_mul_right ei.size hrm
          rw [Nat.add_mul] at h1 h2
          rw [hpn]; omega
        have hrun := hsrc.room p.b (p.base + i0 * ei.size) len cap hrm
          (fun j hj => (r5 _ (hin j hj)).1) (fun j hj => by
            have := (r5 _ (hin j hj)).2.1
            simpa [frozOf] using this)
        let w' := w.setCells p.b (p.base + i0 * ei.size + len * ei.size) news
        have hsame : Same p.has w w' := same_setCells hin
        have hsome : ∀ j, j < news.length → (memOf w p.b (p.base + i0 * ei.size + len * ei.size + j)).isSome := fun j hj => (r5 _ (hin j hj)).1
        have hnewc : ∀ q v, (olds ++ news)[q]? = some v → memOf w' p.b (p.base + i0 * ei.size + q) = some v := by
          intro q v hv
          by_cases hq : q < olds.length
          · rw [List.getElem?_append_left hq] at hv
            rw [setCells_out (.inl (by rw [o1, hcl] at hq; omega))]
            exact o2 q v hv
          · rw [List.getElem?_append_right (by omega)] at hv
            have := setCells_in hsome hv
            rw [o1, hcl] at this hq
            rw [show p.base + i0 * ei.size + len * ei.size + (q - len * ei.size) = p.base + i0 * ei.size + q by omega] at this
            exact this
        have hex : ∀ o, p.has p.b o → (memOf w' p.b o).isSome ∧ ¬ frozOf w' p.b o := fun o ho => setCells_exists hsome ⟨(r5 o ho).1, (r5 o ho).2.1⟩
        have hmv := h.moveTo hob hp hk0 hnk (p' := p') (w' := w') hsame hex hsub rfl rfl (es' := (es.drop i0).take len ++ xs) (by simp only [List.length_append, hcl]; exact hrm)
          (fun j x hx => ⟨hlenA j x hx, fun c y hy => by
            obtain ⟨g1, cv, g2, g3⟩ := hcells j x c y hx hy
            exact ⟨g1, cv, by have := hnewc _ cv g2; rw [← Nat.add_assoc] at this; exact this, g3⟩⟩)
        refine ⟨F, _, w', _, hrun, hmv, .ls (Places.set_self _ _ _) rfl hrm (by simp [p']) (fun _ => by simp [p'])⟩
    · -- into new memory
      have hold : (Builtin.firstCells ei.size len (.slice (some ad) len cap)).run P w.drew = .ok olds.toArray w.drew := by
        refine run_firstCells_some w.drew _ len ad len cap olds (by rw [o1, hcl]) (fun j u hu => ?_)
        have hcap : cap ≠ 0 := by
          rintro rfl
          have : olds = [] := List.eq_nil_of_length_eq_zero (by rw [o1, hcl, show len = 0 by omega]; simp)
          subst this; simp at hu
        rw [had hcap, add_none]
        exact o2 j u hu
      have hrun := hsrc.grow (some ad) len cap olds hold (by omega) (by have := hroom.2; omega)
        (growslice_fits (by omega) (by rw [he.bytes]; exact hroom.1))
      have hge := grownCap_ge w (len + xs.length) cap e
      have hkk : nk ≠ k := by rintro rfl; rw [hob] at hnk; cases hnk
      have hmk := (h.drop hob).grown (k := nk) hk0 (by show st.ob.set k .dead nk = none; rw [Store.set_ne _ _ hkk]; exact hnk) hn (es := (es.drop i0).take len ++ xs) (C := grownCap w (len + xs.length) cap e)
        (by simp only [List.length_append, hcl]; exact hge) (L := olds ++ news) (by simp only [List.length_append, o1, hsrc.newsLen, Nat.add_mul]) (z := ei.zeroVal.cells) hzc e hlenA hcells
      simp only [List.length_append, hcl] at hmk
      exact ⟨F, _, _, _, hrun, hmk, .ls (Places.set_self _ _ _) rfl hge (by simp) (fun _ => by simp)⟩
  · cases hap

theorem append_sound {c : Ctx} {F : Cells} {pl : Places} {st : St} {a : Act} {w : World} (h : Inv c F pl st a w) {nk : Key} (hk0 : nk.1 ≠ 0) {t tx ty e : TypeId} {ei : TI} {i : TypeInfo} {d : TypeDesc}
    (ht : P.underlying t = some (.slice e)) (he : TOk P e ei i d) {stb : Bool} (hk : (stb = false ∧ ∃ e', P.underlying tx = some (.slice e')) ∨ (stb = true ∧ P.underlying tx = some .string))
    {s x : V} {cs cx : Value} (hs : RepV F (memOf w) pl s cs) (hx : RepV F (memOf w) pl x cx) {xs : List V} (hxs : srcV st.ob ei.size stb x = some xs) {v : V} {ups : List (Key × Obj)}
    (hap : appendV ei nk st.ob xs s x = some (v, ups)) :
    ∃ F' pl' w' cv, (Builtin.append_ #[t, tx] ty #[cs, cx]).run P w = .ok cv w' ∧ Inv c F' pl' { st with ob := st.ob.sets ups } a w' ∧ RepV F' (memOf w') pl' v cv := by
  have hn : 0 < ei.size ∨ ei.size = 0 := by omega
  rcases hn with hn | hn
  · obtain ⟨news, hsrc, hlen, hnews, _⟩ := src_sound h.wr hn hk hx hxs
    have hsz : i.size = ei.size := he.size
    rw [← hsz] at hsrc
    refine append_core h hk0 he hs ⟨by rw [hsrc.newsLen, hsz], fun h0 h1 base sLen sCap hle => ?_, fun b off sLen sCap h1 h2 h3 => ?_, fun base sLen sCap olds h1 h2 h3 h4 => ?_⟩ hlen hnews hap
    · rw [h0] at hsrc
      subst h1
      exact run_append_nothing (P := P) w t tx ty e i ht he.info base sLen sCap hle cx hsrc
    · have := run_append_room_src (P := P) w t tx ty e i ht he.info b off sLen sCap cx xs.length news hsrc h1 (by rw [hsz]; exact h2) (by rw [hsz]; exact h3)
      rw [hsz] at this
      exact this
    · exact run_append_grow_src (P := P) w t tx ty e i ei.zeroVal ht he.info he.zero base sLen sCap olds (by rw [hsz]; exact h1) cx xs.length news hsrc h2 h3 h4
  · unfold appendV at hap
    rw [if_pos hn] at hap
    cases hap
end
end Go.Eng
