import Derived.Test.YtpfmaiiolifblaaXEng10
/- A machine of values for the program's code, part 13: calls. -/
namespace Go.Eng
open Go.RowKit

def argOb (objs : List Obj) : Store := fun k => if k.1 = 0 then objs[k.2]? else none
def resOb (objs news : List Obj) : Store := fun k => if k.1 = 0 then objs[k.2]? else if k.1 = 1 then news[k.2]? else none

/-- The cells that a call is handed to change. -/
def handed (pl : Places) (objs : List Obj) : Cells := fun b o => ∃ (j : Nat) (x : Obj) (p : Pl), objs[j]? = some x ∧ x.live = true ∧ pl (0, j) = some p ∧ p.has b o

/-- What stands behind a call. -/
structure Back (F : Cells) (pl : Places) (objs : List Obj) (w : World) (F' : Cells) (pl' : Places) (objs' news : List Obj) (w' : World) (v : V) (cv : Value) : Prop where
  rep : RepV F' (memOf w') pl' v cv
  wr : WR F' pl' (resOb objs' news) w'
  len : objs'.length = objs.length
  plk : ∀ j, j < objs.length → pl' (0, j) = pl (0, j)
  fF : ∀ b o, F b o → F' b o
  fX : ∀ b o, F' b o → F b o ∨ handed pl objs b o ∨ w.heap.size ≤ b
  own : ∀ k x p b o, resOb objs' news k = some x → x.live = true → pl' k = some p → p.has b o → handed pl objs b o ∨ w.heap.size ≤ b
  same : Same (handed pl objs) w w'

def PostC (F : Cells) (pl : Places) (objs : List Obj) (w : World) (K : V → List Obj → List Obj → Prop) (cv : Value) (w' : World) : Prop :=
  ∃ v objs' news F' pl', K v objs' news ∧ Back F pl objs w F' pl' objs' news w' v cv

/-- What a run of `callFunc` comes to. -/
def comesTo (P : Program) (post : Value → World → Prop) : Result Next → Prop
  | .ok (.value v) w' => post v w'
  | .ok (.enter f args) w' => Calls P f args w' fun e w'' => ∃ v, e = .returned v ∧ post v w''
  | _ => False

/-- A call of function f at values and objects: it returns, and what it returns and leaves is one of what K takes. -/
def AC (P : Program) (f : FuncId) (args : List V) (objs : List Obj) (K : V → List Obj → List Obj → Prop) : Prop :=
  ∀ (F : Cells) (pl : Places) (w : World) (cargs : Array Value), WR F pl (argOb objs) w → cargs.size = args.length → (∀ (i : Nat) x (hi : i < cargs.size), args[i]? = some x → RepV F (memOf w) pl x cargs[i]) →
    comesTo P (PostC F pl objs w K) ((callFunc f cargs).run P w)

theorem comesTo.mono {P : Program} {p q : Value → World → Prop} (h : ∀ v w, p v w → q v w) {r : Result Next} (hr : comesTo P p r) : comesTo P q r := by
  cases r with
  | halt x w => exact hr.elim
  | ok a w =>
    cases a <;> first
      | exact h _ _ hr
      | exact Calls.mono hr fun e w ⟨v, he, hp⟩ => ⟨v, he, h _ _ hp⟩
      | exact hr.elim

theorem AC.mono {P : Program} {f : FuncId} {args : List V} {objs : List Obj} {K K' : V → List Obj → List Obj → Prop} (h : AC P f args objs K) (hk : ∀ v a b, K v a b → K' v a b) : AC P f args objs K' :=
  fun F pl w cargs h1 h2 h3 => (h F pl w cargs h1 h2 h3).mono fun _ _ ⟨v, a, b, F', pl', hK, hb⟩ => ⟨v, a, b, F', pl', hk _ _ _ hK, hb⟩

def idxOf (k : Key) : List Key → Nat
  | [] => 0
  | l :: ls => if l = k then 0 else idxOf k ls + 1

theorem idxOf_get {k : Key} : ∀ {L : List Key}, k ∈ L → L[idxOf k L]? = some k
  | l :: ls, h => by
    unfold idxOf
    split
    · rename_i e; simp [e]
    · rename_i e
      cases h with
      | head => exact absurd rfl e
      | tail _ h => simpa using idxOf_get h

theorem idxOf_of_get {L : List Key} (hn : L.Nodup) {j : Nat} {k : Key} (h : L[j]? = some k) : idxOf k L = j := by
  induction L generalizing j with
  | nil => simp at h
  | cons l ls ih =>
    unfold idxOf
    cases j with
    | zero => simp at h; simp [h]
    | succ j =>
      simp at h
      have hm : k ∈ ls := List.mem_of_getElem? h
      rw [List.nodup_cons] at hn
      rw [if_neg (by rintro rfl; exact hn.1 hm), ih hn.2 h]

mutual
/-- A value as a callee sees it: its objects by their places in L; what is no longer written, by what it holds. -/
def argC (get : Store) (L : List Key) : V → Option V
  | .lp k n i o => match get k with
    | some (.froz n' es) => if n' = n then some (.ip n es i o) else none
    | _ => if k ∈ L then some (.lp (0, idxOf k L) n i o) else none
  | .ls k n i len => match get k with
    | some (.froz n' es) => if n' = n ∧ i + len ≤ es.length then some (.is n ((es.drop i).take len)) else none
    | _ => if k ∈ L then some (.ls (0, idxOf k L) n i len) else none
  | .fn f cs => match argL get L cs with
    | some cs => some (.fn f cs)
    | none => none
  | .agg cs => match argL get L cs with
    | some cs => some (.agg cs)
    | none => none
  | .tup cs => match argL get L cs with
    | some cs => some (.tup cs)
    | none => none
  | .un => some .un
  | .e0 => some .e0
  | .lit v => some (.lit v)
  | .ip n es i o => some (.ip n es i o)
  | .is n es => some (.is n es)
def argL (get : Store) (L : List Key) : List V → Option (List V)
  | [] => some []
  | v :: vs => match argC get L v with
    | some v => match argL get L vs with
      | some vs => some (v :: vs)
      | none => none
    | none => none
end

theorem argL_get {get : Store} {L : List Key} : ∀ {vs us : List V}, argL get L vs = some us → us.length = vs.length ∧ ∀ (i : Nat) u, us[i]? = some u → ∃ v, vs[i]? = some v ∧ argC get L v = some u
  | [], us, h => by simp [argL] at h; subst h; exact ⟨rfl, fun i u hu => by simp at hu⟩
  | v :: vs, us, h => by
    simp only [argL] at h
    split at h <;> try contradiction
    rename_i v' hv
    split at h <;> try contradiction
    rename_i vs' hvs
    simp only [Option.some.injEq] at h
    subst h
    obtain ⟨h1, h2⟩ := argL_get hvs
    refine ⟨by simp [h1], fun i u hu => ?_⟩
    cases i with
    | zero => simp at hu; subst hu; exact ⟨v, rfl, hv⟩
    | succ i => simpa using h2 i u (by simpa using hu)

def callPl (pl : Places) (L : List Key) : Places := fun k => if k.1 = 0 then (L[k.2]?).bind pl else none

def FrozAt (F : Cells) (m : Mem) (pl : Places) (ob : Store) : Prop := ∀ k n es, ob k = some (.froz n es) → ∃ p, pl k = some p ∧ p.n = n ∧
  ∀ (j : Nat) e, es[j]? = some e → RepE F m noPl p.b (p.base + j * n) n e ∧ ∀ c, c < n → F p.b (p.base + j * n + c)

theorem WR.frozAt {F : Cells} {pl : Places} {ob : Store} {w : World} (h : WR F pl ob w) : FrozAt F (memOf w) pl ob := by
  intro k n es hk
  obtain ⟨p, hp, h1, _, _, h4⟩ := h.rep k _ hk
  exact ⟨p, hp, h1, h4⟩

theorem isPtr {F : Cells} {m : Mem} {pl : Places} {p : Pl} {n i off : Nat} {es : List V} (hr : ∀ (j : Nat) e, es[j]? = some e → RepE F m noPl p.b (p.base + j * n) n e ∧ ∀ c, c < n → F p.b (p.base + j * n + c)) :
    RepV F m pl (.ip n es i off) (.pointer (some ⟨p.b, p.base + i * n + off, none⟩)) := by
  let cf : Nat → Nat → Value := fun j c => (m p.b (p.base + j * n + c)).getD undef
  have hcf : ∀ (j : Nat) e (c : Nat) x, es[j]? = some e → e.cells[c]? = some x → scal x = true ∧ F p.b (p.base + j * n + c) ∧ m p.b (p.base + j * n + c) = some (cf j c) ∧ RepV F m noPl x (cf j c) := by
    intro j e c x he hx
    obtain ⟨⟨h1, h2⟩, h3⟩ := hr _ e he
    obtain ⟨g1, cv, g2, g3⟩ := h2 c x hx
    have e1 : cf j c = cv := by simp only [cf, g2, Option.getD_some]
    exact ⟨g1, h3 c (by rw [← h1]; exact (List.getElem?_eq_some_iff.1 hx).1), by rw [e1]; exact g2, by rw [e1]; exact g3⟩
  exact .ip cf (fun j e he => (hr j e he).1.1) (fun j e c x he hx => ⟨(hcf j e c x he hx).1, (hcf j e c x he hx).2.1, (hcf j e c x he hx).2.2.1⟩) (fun j e c x he hx => (hcf j e c x he hx).2.2.2)

theorem callPl_get {pl : Places} {L : List Key} {k : Key} (h : k ∈ L) : callPl pl L (0, idxOf k L) = pl k := by
  simp [callPl, idxOf_get h]

theorem arg_sound {F : Cells} {m : Mem} {pl : Places} {ob : Store} {L : List Key} {v : V} {cv : Value} (h : RepV F m pl v cv) : FrozAt F m pl ob →
    ∀ {u : V}, argC ob L v = some u → RepV F m (callPl pl L) u cv := by
  have many : ∀ {pl : Places} {vs : List V} {cs : Array Value}, FrozAt F m pl ob → cs.size = vs.length → (∀ (i : Nat) x (h : i < cs.size), vs[i]? = some x → FrozAt F m pl ob → ∀ {u : V}, argC ob L x = some u → RepV F m (callPl pl L) u cs[i]) →
      ∀ {us : List V}, argL ob L vs = some us → cs.size = us.length ∧ ∀ (i : Nat) u (h : i < cs.size), us[i]? = some u → RepV F m (callPl pl L) u cs[i] := by
    intro pl vs cs hw hs hi us hu
    obtain ⟨h1, h2⟩ := argL_get hu
    refine ⟨by rw [hs, h1], fun i u hi' hu' => ?_⟩
    obtain ⟨x, hx, hxu⟩ := h2 i u hu'
    exact hi i x hi' hx hw hxu
  induction h with
  | un => intro hw u hu; simp only [argC, Option.some.injEq] at hu; subst hu; exact .un
  | lit => intro hw u hu; simp only [argC, Option.some.injEq] at hu; subst hu; exact .lit
  | e0 => intro hw u hu; simp only [argC, Option.some.injEq] at hu; subst hu; exact .e0
  | e0n => intro hw u hu; simp only [argC, Option.some.injEq] at hu; subst hu; exact .e0n
  | isn => intro hw u hu; simp only [argC, Option.some.injEq] at hu; subst hu; exact .isn
  | ip cf h1 h2 h3 ih => intro hw u hu; simp only [argC, Option.some.injEq] at hu; subst hu; exact .ip cf h1 h2 h3
  | is cf h0 h00 h1 h2 h3 ih => intro hw u hu; simp only [argC, Option.some.injEq] at hu; subst hu; exact .is cf h0 h00 h1 h2 h3
  | lp hp hn =>
    intro hw u hu
    simp only [argC] at hu
    split at hu
    · rename_i hob
      split at hu <;> try contradiction
      rename_i e; subst e
      simp only [Option.some.injEq] at hu; subst hu
      obtain ⟨q, hq, h1, h2⟩ := hw _ _ _ hob
      cases hp.symm.trans hq
      exact isPtr h2
    · split at hu <;> try contradiction
      rename_i hk
      simp only [Option.some.injEq] at hu; subst hu
      exact .lp (by rw [callPl_get hk]; exact hp) hn
  | ls hp hn h1 h2 h3 =>
    intro hw u hu
    simp only [argC] at hu
    split at hu
    · rename_i hob
      split at hu <;> try contradiction
      rename_i e
      obtain ⟨e, hle⟩ := e
      subst e
      simp only [Option.some.injEq] at hu; subst hu
      obtain ⟨q, hq, _, g2⟩ := hw _ _ _ hob
      cases hp.symm.trans hq
      exact isRow hle h1 h3 g2
    · split at hu <;> try contradiction
      rename_i hk
      simp only [Option.some.injEq] at hu; subst hu
      exact .ls (by rw [callPl_get hk]; exact hp) hn h1 h2 h3
  | fn cs h1 _ ih =>
    intro hw u hu
    simp only [argC] at hu
    split at hu <;> try contradiction
    rename_i cs' hcs
    simp only [Option.some.injEq] at hu; subst hu
    obtain ⟨g1, g2⟩ := many hw h1 ih hcs
    exact .fn cs g1 (fun i x h hx => g2 i x h hx)
  | agg cs h1 _ ih =>
    intro hw u hu
    simp only [argC] at hu
    split at hu <;> try contradiction
    rename_i cs' hcs
    simp only [Option.some.injEq] at hu; subst hu
    obtain ⟨g1, g2⟩ := many hw h1 ih hcs
    exact .agg cs g1 (fun i x h hx => g2 i x h hx)
  | tup cs h1 _ ih =>
    intro hw u hu
    simp only [argC] at hu
    split at hu <;> try contradiction
    rename_i cs' hcs
    simp only [Option.some.injEq] at hu; subst hu
    obtain ⟨g1, g2⟩ := many hw h1 ih hcs
    exact .tup cs g1 (fun i x h hx => g2 i x h hx)

def objC (get : Store) (L : List Key) : Obj → Option Obj
  | .dead => some .dead
  | .arr true n es => some (.arr true n es)
  | .arr false n es => match argL get L es with
    | some es => some (.arr false n es)
    | none => none
  | .froz _ _ => none

def objsC (get : Store) (L : List Key) : List Key → Option (List Obj)
  | [] => some []
  | k :: ks => match get k with
    | some x => match objC get L x with
      | some x => match objsC get L ks with
        | some xs => some (x :: xs)
        | none => none
      | none => none
    | none => none

theorem objsC_get {get : Store} {L : List Key} : ∀ {ks : List Key} {xs : List Obj}, objsC get L ks = some xs → xs.length = ks.length ∧ ∀ (i : Nat) x, xs[i]? = some x → ∃ k y, ks[i]? = some k ∧ get k = some y ∧ objC get L y = some x
  | [], xs, h => by simp [objsC] at h; subst h; exact ⟨rfl, fun i u hu => by simp at hu⟩
  | k :: ks, xs, h => by
    simp only [objsC] at h
    split at h <;> try contradiction
    rename_i y hy
    split at h <;> try contradiction
    rename_i x hx
    split at h <;> try contradiction
    rename_i xs' hxs
    simp only [Option.some.injEq] at h
    subst h
    obtain ⟨h1, h2⟩ := objsC_get hxs
    refine ⟨by simp [h1], fun i u hu => ?_⟩
    cases i with
    | zero => simp at hu; subst hu; exact ⟨k, y, rfl, hy, hx⟩
    | succ i => simpa using h2 i u (by simpa using hu)

theorem argC_cells {get : Store} {L : List Key} {e e' : V} (h : argC get L e = some e') : e'.cells.length = e.cells.length ∧ ∀ (c : Nat) x', e'.cells[c]? = some x' → ∃ x, e.cells[c]? = some x ∧ argC get L x = some x' := by
  by_cases ha : ∃ cs, e = .agg cs
  · obtain ⟨cs, rfl⟩ := ha
    simp only [argC] at h
    split at h <;> try contradiction
    rename_i cs' hcs
    simp only [Option.some.injEq] at h; subst h
    exact argL_get hcs
  · have h1 : e.cells = [e] := by cases e <;> first | rfl | exact absurd ⟨_, rfl⟩ ha
    have h2 : e'.cells = [e'] := by
      cases e <;> simp only [argC] at h
      case agg cs => exact absurd ⟨_, rfl⟩ ha
      all_goals (repeat' split at h) <;> first | contradiction | (simp only [Option.some.injEq] at h; subst h; rfl)
    rw [h1, h2]
    refine ⟨rfl, fun c x' hx => ?_⟩
    have hc : c = 0 := by have := (List.getElem?_eq_some_iff.1 hx).1; simp at this; exact this
    subst hc
    simp at hx; subst hx
    exact ⟨e, rfl, h⟩

theorem argC_scal {get : Store} {L : List Key} {e e' : V} (h : argC get L e = some e') (hs : scal e = true) : scal e' = true := by
  cases e <;> simp only [argC] at h
  case agg cs => simp [scal] at hs
  case tup cs => simp [scal] at hs
  case un => simp [scal] at hs
  case lit v => simp only [Option.some.injEq] at h; subst h; exact hs
  all_goals (repeat' split at h) <;> first | contradiction | (simp only [Option.some.injEq] at h; subst h; rfl)

/-- The store that a call is handed. -/
theorem handOver {F : Cells} {pl : Places} {ob : Store} {w : World} (hw : WR F pl ob w) {L : List Key} (hn : L.Nodup) {objs : List Obj} (ho : objsC ob L L = some objs) : WR F (callPl pl L) (argOb objs) w := by
  obtain ⟨hl, hg⟩ := objsC_get ho
  have hfz := hw.frozAt
  have look : ∀ k x, argOb objs k = some x → ∃ l y, L[k.2]? = some l ∧ k.1 = 0 ∧ ob l = some y ∧ objC ob L y = some x ∧ callPl pl L k = pl l := by
    intro k x hk
    unfold argOb at hk
    split at hk <;> try contradiction
    rename_i h0
    obtain ⟨l, y, h1, h2, h3⟩ := hg _ _ hk
    exact ⟨l, y, h1, h0, h2, h3, by simp [callPl, h0, h1]⟩
  have livee : ∀ {x y : Obj}, objC ob L y = some x → x.live = true → y.live = true := by
    intro x y h hx
    cases y with
    | dead => simp [objC] at h; subst h; cases hx
    | froz n es => simp [objC] at h
    | arr kf n es => rfl
  refine ⟨fun k x hk => ?_, fun k hk => ?_, fun k1 k2 x y p q b o hne h1 h2 hx hy hp hq hpo hqo => ?_, hw.fex⟩
  · obtain ⟨l, y, g1, g2, g3, g4, g5⟩ := look k x hk
    obtain ⟨p, hp, hr⟩ := hw.rep l y g3
    refine ⟨p, by rw [g5]; exact hp, ?_⟩
    cases y with
    | dead => simp [objC] at g4; subst g4; trivial
    | froz n es => simp [objC] at g4
    | arr kf n es =>
      obtain ⟨r1, r2, r3, r4, r5⟩ := hr
      cases kf with
      | true => simp [objC] at g4; subst g4; exact ⟨r1, r2, r3, r4, r5⟩
      | false =>
        simp only [objC] at g4
        split at g4 <;> try contradiction
        rename_i es' hes
        simp only [Option.some.injEq] at g4; subst g4
        obtain ⟨e1, e2⟩ := argL_get hes
        refine ⟨r1, r2, by rw [e1]; exact r3, r4, fun j e' he' => ?_⟩
        obtain ⟨e, he, hee⟩ := e2 j e' he'
        obtain ⟨s1, s2⟩ := r5 j e he
        obtain ⟨c1, c2⟩ := argC_cells hee
        refine ⟨by rw [c1]; exact s1, fun c x' hx' => ?_⟩
        obtain ⟨x, hx, hxx⟩ := c2 c x' hx'
        obtain ⟨t1, cv, t2, t3⟩ := s2 c x hx
        exact ⟨argC_scal hxx t1, cv, t2, arg_sound (by simpa [Obj.plc] using t3) hfz hxx⟩
  · unfold argOb at hk
    unfold callPl
    split at hk
    · rename_i h0
      rw [if_pos h0]
      have : L[k.2]? = none := by
        rw [List.getElem?_eq_none_iff] at hk ⊢; omega
      simp [this]
    · rename_i h0; rw [if_neg h0]
  · obtain ⟨l1, y1, a1, a2, a3, a4, a5⟩ := look k1 x h1
    obtain ⟨l2, y2, b1, b2, b3, b4, b5⟩ := look k2 y h2
    rw [a5] at hp; rw [b5] at hq
    refine hw.dis l1 l2 y1 y2 p q b o ?_ a3 b3 (livee a4 hx) (livee b4 hy) hp hq hpo hqo
    rintro rfl
    apply hne
    have e1 := idxOf_of_get hn a1
    have e2 := idxOf_of_get hn b1
    exact Prod.ext (by rw [a2, b2]) (by rw [← e1, ← e2])
end Go.Eng

/- A machine of values for the program's code, part 14: what stands behind a call. -/
namespace Go.Eng
open Go.RowKit

def backKey (L : List Key) (kb : Nat) : Key → Key := fun k => if k.1 = 0 then L.getD k.2 (0, 0) else (kb, k.2)

def backOb (ob : Store) (L : List Key) (kb : Nat) (objs news : List Obj) : Store := fun k =>
  if k ∈ L then (objs[idxOf k L]?).map (Obj.ren (backKey L kb))
  else if k.1 = kb ∧ k.2 < news.length then (news[k.2]?).map (Obj.ren (backKey L kb))
  else ob k

def freshKb (ob : Store) (kb : Nat) (n : Nat) : Prop := ∀ j, j < n → ob (kb, j) = none

theorem ren_cells {s : Key → Key} (e : V) : (e.ren s).cells = renL s e.cells := by
  cases e <;> rfl

theorem ren_scal {s : Key → Key} {x : V} : scal (x.ren s) = scal x := by
  cases x <;> rfl

theorem ren_live {s : Key → Key} (x : Obj) : (x.ren s).live = x.live := by
  cases x with
  | dead => rfl
  | froz n es => rfl
  | arr kf n es => cases kf <;> rfl

theorem RepO.ren {F : Cells} {m : Mem} {fz : Cells} {pl pl' : Places} {s : Key → Key} {p : Pl} {x : Obj} (h : RepO F m fz pl p x) (hs : ∀ k q, pl k = some q → pl' (s k) = some q) : RepO F m fz pl' p (x.ren s) := by
  cases x with
  | dead => trivial
  | froz n es => exact h
  | arr kf n es =>
    cases kf with
    | true => exact h
    | false =>
      obtain ⟨r1, r2, r3, r4, r5⟩ := h
      refine ⟨r1, r2, by rw [renL_length]; exact r3, r4, fun j e he => ?_⟩
      rw [renL_get] at he
      obtain ⟨z, hz, rfl⟩ := Option.map_eq_some_iff.1 he
      obtain ⟨s1, s2⟩ := r5 j z hz
      refine ⟨by rw [ren_cells, renL_length]; exact s1, fun c x hx => ?_⟩
      rw [ren_cells, renL_get] at hx
      obtain ⟨x0, hx0, rfl⟩ := Option.map_eq_some_iff.1 hx
      obtain ⟨t1, cv, t2, t3⟩ := s2 c x0 hx0
      exact ⟨by rw [ren_scal]; exact t1, cv, t2, RepV.ren (pl' := pl') (by simpa [Obj.plc] using t3) (fun k q _ hq => hs k q hq)⟩

theorem back_sound {c : Ctx} {F : Cells} {pl : Places} {st : St} {a : Act} {w : World} (h : Inv c F pl st a w) {L : List Key} (hn : L.Nodup) {objs : List Obj} (ho : objsC st.ob L L = some objs) {kb : Nat} (hk0 : kb ≠ 0)
    {F' : Cells} {pl' : Places} {objs' news : List Obj} {w' : World} {v : V} {cv : Value} (hb : Back F (callPl pl L) objs w F' pl' objs' news w' v cv) (hf : freshKb st.ob kb news.length) :
    ∃ pl'', Inv c F' pl'' { st with ob := backOb st.ob L kb objs' news } a w' ∧ RepV F' (memOf w') pl'' (v.ren (backKey L kb)) cv := by
  obtain ⟨hl, hg⟩ := objsC_get ho
  have hw := handOver h.wr hn ho
  let pl'' : Places := fun k => if k.1 = kb ∧ k.2 < news.length then pl' (1, k.2) else pl k
  have hLne : ∀ k ∈ L, ¬ (k.1 = kb ∧ k.2 < news.length) := by
    rintro k hk ⟨rfl, h2⟩
    obtain ⟨j, hj⟩ := List.mem_iff_getElem?.1 hk
    have : j < objs.length := by rw [hl]; exact (List.getElem?_eq_some_iff.1 hj).1
    obtain ⟨l, y, g1, g2, _⟩ := hg j _ (List.getElem?_eq_getElem this)
    rw [hj] at g1; cases g1
    have := hf k.2 h2
    rw [show (k.1, k.2) = k from rfl, g2] at this
    cases this
  have hplL : ∀ j k, L[j]? = some k → pl' (0, j) = pl k ∧ j < objs.length := by
    intro j k hj
    have hlt : j < objs.length := by rw [hl]; exact (List.getElem?_eq_some_iff.1 hj).1
    exact ⟨by rw [hb.plk j hlt]; simp [callPl, hj], hlt⟩
  have hren : ∀ k q, pl' k = some q → pl'' (backKey L kb k) = some q := by
    intro k q hq
    have hne : resOb objs' news k ≠ none := fun h0 => by rw [hb.wr.non k h0] at hq; cases hq
    unfold resOb at hne
    by_cases h0 : k.1 = 0
    · rw [if_pos h0] at hne
      have hlt : k.2 < objs'.length := by
        rcases Nat.lt_or_ge k.2 objs'.length with g | g
        · exact g
        · exact absurd (List.getElem?_eq_none g) hne
      rw [hb.len, hl] at hlt
      have hj := List.getElem?_eq_getElem hlt
      obtain ⟨e1, _⟩ := hplL _ _ hj
      have : k = (0, k.2) := by rw [← h0]
      rw [this, e1] at hq
      simp only [pl'', backKey, if_pos h0, List.getD, hj, Option.getD_some]
      rw [if_neg (hLne _ (List.mem_of_getElem? hj))]
      exact hq
    · rw [if_neg h0] at hne
      split at hne
      · rename_i h1
        have hlt : k.2 < news.length := by
          rcases Nat.lt_or_ge k.2 news.length with g | g
          · exact g
          · exact absurd (List.getElem?_eq_none g) hne
        simp only [pl'', backKey, if_neg h0]
        rw [if_pos ⟨trivial, hlt⟩, ← h1]
        exact hq
      · exact absurd rfl hne
  have hpl : ∀ k p, pl k = some p → pl'' k = some p := by
    intro k p hp
    simp only [pl'']
    rw [if_neg ?_]
    · exact hp
    · rintro ⟨rfl, h2⟩
      have := h.wr.non _ (hf k.2 h2)
      rw [show (k.1, k.2) = k from rfl, hp] at this
      cases this
  -- what the call was handed
  have hZ : ∀ b o, handed (callPl pl L) objs b o → ∃ l y p, l ∈ L ∧ st.ob l = some y ∧ y.live = true ∧ pl l = some p ∧ p.has b o := by
    rintro b o ⟨j, x, p, h1, h2, h3, h4⟩
    obtain ⟨l, y, g1, g2, g3⟩ := hg j x h1
    refine ⟨l, y, p, List.mem_of_getElem? g1, g2, ?_, by simpa [callPl, g1] using h3, h4⟩
    cases y with
    | dead => simp [objC] at g3; subst g3; cases h2
    | froz n es => simp [objC] at g3
    | arr kf n es => rfl
  have hZF : ∀ b o, F b o → ¬ handed (callPl pl L) objs b o := by
    intro b o hfb hz
    obtain ⟨l, y, p, _, g2, g3, g4, g5⟩ := hZ b o hz
    exact (live_lt h.wr g2 g3 g4 g5).2.2 hfb
  have hZm : ∀ b o, handed (callPl pl L) objs b o → c.mine b o := by
    intro b o hz
    obtain ⟨l, y, p, _, g2, g3, g4, g5⟩ := hZ b o hz
    exact h.own l y p b o g2 g3 g4 g5
  have hnew : ∀ b : Nat, w.heap.size ≤ b → ∀ o, c.mine b o := fun b hb _ => .inr (Nat.le_trans h.same.size hb)
  -- what each object is now
  have look : ∀ k x, backOb st.ob L kb objs' news k = some x →
      (∃ q x0, resOb objs' news q = some x0 ∧ x = x0.ren (backKey L kb) ∧ pl'' k = pl' q ∧ (k ∈ L ∨ (k.1 = kb ∧ k.2 < news.length)) ∧ ((q.1 = 0 ∧ L[q.2]? = some k) ∨ (q.1 = 1 ∧ k = (kb, q.2)))) ∨
      (k ∉ L ∧ ¬ (k.1 = kb ∧ k.2 < news.length) ∧ st.ob k = some x ∧ pl'' k = pl k) := by
    intro k x hk
    unfold backOb at hk
    split at hk
    · rename_i hkL
      obtain ⟨x0, hx0, rfl⟩ := Option.map_eq_some_iff.1 hk
      refine .inl ⟨(0, idxOf k L), x0, by simp [resOb, hx0], rfl, ?_, .inl hkL, .inl ⟨rfl, idxOf_get hkL⟩⟩
      simp only [pl'']
      rw [if_neg (hLne k hkL), (hplL _ _ (idxOf_get hkL)).1]
    · rename_i hkL
      split at hk
      · rename_i hkb
        obtain ⟨x0, hx0, rfl⟩ := Option.map_eq_some_iff.1 hk
        refine .inl ⟨(1, k.2), x0, by simp [resOb, hx0], rfl, ?_, .inr hkb, .inr ⟨rfl, by rw [← hkb.1]⟩⟩
        simp only [pl'']
        rw [if_pos hkb]
      · rename_i hkb
        refine .inr ⟨hkL, hkb, hk, ?_⟩
        simp only [pl'']
        rw [if_neg hkb]
  have hFm : ∀ b o, F' b o → F b o ∨ c.mine b o := by
    intro b o hfb
    rcases hb.fX b o hfb with g | g | g
    · exact .inl g
    · exact .inr (hZm b o g)
    · exact .inr (hnew b g o)
  refine ⟨pl'', ?_, RepV.ren hb.rep (fun k q _ hq => hren k q hq)⟩
  refine h.turn hb.same hZF (fun b o hz _ => hZm b o hz) hb.fF hFm hpl ?_ ?_ (fun k p h0 hp => by
    simp only [pl''] at hp
    rw [if_neg (fun e => hk0 (by rw [← e.1, h0]))] at hp; exact hp)
  · refine h.wr.turn hb.same hZF hb.fF (fun b o hfb => .inr (hb.wr.fex b o hfb)) hpl (fun k x hk => ?_) (fun k hk => ?_) ?_
    · rcases look k x hk with ⟨q, x0, g1, rfl, g3, _, _⟩ | ⟨g1, g2, g3, g4⟩
      · obtain ⟨p, hp, hr⟩ := hb.wr.rep q x0 g1
        exact .inr ⟨p, by rw [g3]; exact hp, hr.ren hren⟩
      · refine .inl ⟨g3, fun hx p o hp ho => ⟨fun hz => ?_, fun hfb => ?_⟩⟩
        · obtain ⟨l, y, q, a1, a2, a3, a4, a5⟩ := hZ _ _ hz
          exact h.wr.dis k l x y p q _ o (fun e => g1 (e ▸ a1)) g3 a2 hx a3 hp a4 ho a5
        · have hlt := live_lt h.wr g3 hx hp ho
          rcases hb.fX _ _ hfb with t | t | t
          · exact hlt.2.2 t
          · obtain ⟨l, y, q, a1, a2, a3, a4, a5⟩ := hZ _ _ t
            exact h.wr.dis k l x y p q _ o (fun e => g1 (e ▸ a1)) g3 a2 hx a3 hp a4 ho a5
          · have := memOf_lt hlt.1; omega
    · unfold backOb at hk
      split at hk
      · rename_i hkL
        have hj := idxOf_get hkL
        have hlt := (hplL _ _ hj).2
        simp only [Option.map_eq_none_iff, List.getElem?_eq_none_iff] at hk
        have := hb.len; omega
      · split at hk
        · rename_i hkb
          simp only [Option.map_eq_none_iff, List.getElem?_eq_none_iff] at hk
          omega
        · rename_i hkb
          simp only [pl'']
          rw [if_neg hkb]
          exact h.wr.non k hk
    · intro k1 k2 x y p q b o hne h1 h2 hx hy hp hq hpo hqo
      have cross : ∀ k x p, k ∉ L → st.ob k = some x → x.live = true → pl k = some p → p.has b o → (handed (callPl pl L) objs b o ∨ w.heap.size ≤ b) → False := by
        intro k x p g1 g3 hx hp ho hh
        rcases hh with t | t
        · obtain ⟨l, y, q, a1, a2, a3, a4, a5⟩ := hZ _ _ t
          exact h.wr.dis k l x y p q _ o (fun e => g1 (e ▸ a1)) g3 a2 hx a3 hp a4 ho a5
        · have := memOf_lt (live_lt h.wr g3 hx hp ho).1; omega
      rcases look k1 x h1 with ⟨q1, x1, g1, rfl, g3, g4, g5⟩ | ⟨g1, g2, g3, g4⟩
      · rw [ren_live] at hx
        rw [g3] at hp
        rcases look k2 y h2 with ⟨q2, y2, f1, rfl, f3, f4, f5⟩ | ⟨f1, f2, f3, f4⟩
        · rw [ren_live] at hy
          rw [f3] at hq
          refine hb.wr.dis q1 q2 x1 y2 p q b o ?_ g1 f1 hx hy hp hq hpo hqo
          rintro rfl
          apply hne
          rcases g5 with ⟨a1, a2⟩ | ⟨a1, a2⟩ <;> rcases f5 with ⟨b1, b2⟩ | ⟨b1, b2⟩
          · rw [a2] at b2; exact Option.some.inj b2
          · omega
          · omega
          · rw [a2, b2]
        · rw [f4] at hq
          exact cross k2 y q f1 f3 hy hq hqo (hb.own q1 x1 p b o g1 hx hp hpo)
      · rw [g4] at hp
        rcases look k2 y h2 with ⟨q2, y2, f1, rfl, f3, f4, f5⟩ | ⟨f1, f2, f3, f4⟩
        · rw [ren_live] at hy
          rw [f3] at hq
          exact cross k1 x p g1 g3 hx hp hpo (hb.own q2 y2 q b o f1 hy hq hqo)
        · rw [f4] at hq
          exact h.wr.dis k1 k2 x y p q b o hne g3 f3 hx hy hp hq hpo hqo
  · intro k x p b o hk hx hp hpo
    rcases look k x hk with ⟨q1, x1, g1, rfl, g3, g4, g5⟩ | ⟨g1, g2, g3, g4⟩
    · rw [ren_live] at hx
      rw [g3] at hp
      rcases hb.own q1 x1 p b o g1 hx hp hpo with t | t
      · exact hZm b o t
      · exact hnew b t o
    · rw [g4] at hp
      exact h.own k x p b o g3 hx hp hpo
end Go.Eng

/- A machine of values for the program's code, part 15: the call as an operation. -/
namespace Go.Eng
open Go.RowKit

def freezeAll (ob : Store) : List Key → Option Store
  | [] => some ob
  | k :: ks => match ob k with
    | some (.arr true n es) => freezeAll (ob.set k (.froz n es)) ks
    | some (.froz _ _) => freezeAll ob ks
    | _ => none

def isFroz : Option Obj → Bool
  | some (.froz _ _) => true
  | _ => false

def addKeys (get : Store) : List Key → List Key → List Key
  | acc, [] => acc
  | acc, k :: ks => if k ∈ acc ∨ isFroz (get k) = true then addKeys get acc ks else addKeys get (acc ++ [k]) ks

def obMents (get : Store) (k : Key) : List Key :=
  match get k with
  | some x => x.ments
  | none => []

def reachN (get : Store) : Nat → List Key → List Key
  | 0, acc => acc
  | n + 1, acc => reachN get n (addKeys get acc (acc.flatMap (obMents get)))

def reach (get : Store) (vs : List V) : List Key := reachN get 3 (addKeys get [] (mentsL vs))

theorem addKeys_nodup {get : Store} : ∀ (ks : List Key) {acc : List Key}, acc.Nodup → (addKeys get acc ks).Nodup
  | [], _, h => h
  | k :: ks, acc, h => by
    unfold addKeys
    split
    · exact addKeys_nodup ks h
    · rename_i hn
      refine addKeys_nodup ks ?_
      rw [List.nodup_append]
      refine ⟨h, by simp, fun x hx y hy => ?_⟩
      simp at hy; subst hy
      rintro rfl
      exact hn (.inl hx)

theorem reachN_nodup {get : Store} : ∀ (n : Nat) {acc : List Key}, acc.Nodup → (reachN get n acc).Nodup
  | 0, _, h => h
  | n + 1, _, h => reachN_nodup n (addKeys_nodup _ h)

theorem reach_nodup (get : Store) (vs : List V) : (reach get vs).Nodup := reachN_nodup 3 (addKeys_nodup _ List.nodup_nil)

mutual
/-- The rows that a value names. -/
def V.rows : V → List Key
  | .ls k _ _ _ => [k]
  | .agg cs => rowsL cs
  | _ => []
def rowsL : List V → List Key
  | [] => []
  | v :: vs => v.rows ++ rowsL vs
end

def frzKeys (ps : List Nat) (vs : List V) : List Key := ps.flatMap fun i => match vs[i]? with
  | some v => v.rows
  | none => []

def callG (P : Program) (imm : FuncId → List Nat) (kb : Nat) (ob : Store) (f : FuncId) (vs : List V) (K : V → Store → Prop) : Prop :=
  match freezeAll ob (frzKeys (imm f) vs) with
  | none => False
  | some ob1 =>
    match argL ob1 (reach ob1 vs) vs, objsC ob1 (reach ob1 vs) (reach ob1 vs) with
    | some args, some objs => AC P f args objs fun v objs' news => freshKb ob1 kb news.length ∧ K (v.ren (backKey (reach ob1 vs) kb)) (backOb ob1 (reach ob1 vs) kb objs' news)
    | _, _ => False

theorem callG.mono' {P : Program} {imm : FuncId → List Nat} {kb : Nat} {ob : Store} {f : FuncId} {vs : List V} {K K' : V → Store → Prop} (h : callG P imm kb ob f vs K) (hk : ∀ v o, K v o → K' v o) : callG P imm kb ob f vs K' := by
  unfold callG at h ⊢
  split at h
  · exact h.elim
  split at h
  · exact h.mono fun _ _ _ ⟨h1, h2⟩ => ⟨h1, hk _ _ h2⟩
  · exact h.elim

section
variable {P : Program} {c : Ctx} {st : St} {a : Act} {w : World}

theorem freezeAll_sound : ∀ (ks : List Key) {F : Cells} {pl : Places} {ob ob' : Store}, Inv c F pl { st with ob := ob } a w → freezeAll ob ks = some ob' → ∃ F', Inv c F' pl { st with ob := ob' } a w
  | [], F, pl, ob, ob', h, hf => by simp [freezeAll] at hf; subst hf; exact ⟨F, h⟩
  | k :: ks, F, pl, ob, ob', h, hf => by
    simp only [freezeAll] at hf
    split at hf
    · rename_i n es hk
      obtain ⟨p, hp, _⟩ := h.wr.rep k _ hk
      exact freezeAll_sound ks (h.freeze hk hp) hf
    · exact freezeAll_sound ks h hf
    · cases hf

theorem call_sound {imm : FuncId → List Nat} {kb : Nat} (hk0 : kb ≠ 0) (h : InvE c st a w) (o : Oper) {fo : Operand} {as : Array Operand} {ts : Array TypeId} (hop : o.op = .call { callee := .value fo, args := as, argTypes := ts })
    {f : FuncId} {caps : List V} (hμ : ev st.tm fo = .fn f caps) {next : Act → World → Prop} {Q : Exit → Act → World → Prop}
    (hK : callG P imm kb st.ob f (as.toList.map (ev st.tm) ++ caps) fun v ob' => ∀ a' w', InvE c (({ st with ob := ob' } : St).put o.dst v) a' w' → next a' w') : o.wp P a w next Q := by
  obtain ⟨F, pl, hI⟩ := h
  unfold callG at hK
  split at hK
  · exact hK.elim
  rename_i ob1 hfr
  obtain ⟨F1, h1⟩ := freezeAll_sound (st := st) _ (ob := st.ob) hI hfr
  split at hK <;> try exact hK.elim
  rename_i args objs hargs hobjs
  have hnd := reach_nodup ob1 (as.toList.map (ev st.tm) ++ caps)
  generalize reach ob1 (as.toList.map (ev st.tm) ++ caps) = L at *
  have hw := handOver h1.wr hnd hobjs
  have hρ := ev_rep h1
  have hfo := hρ fo
  rw [show ev ({ st with ob := ob1 } : St).tm fo = .fn f caps from hμ] at hfo
  obtain ⟨cc, hcc, hcs, hcr⟩ := hfo.fn_inv
  obtain ⟨hal, hag⟩ := argL_get hargs
  have hrun : (execOp a.eval o).run P w = (callFunc f (as.map a.eval ++ cc)).run P w := by
    obtain ⟨dst, op, ty, pos, after, guard⟩ := o
    simp only at hop
    subst hop
    simp only [execOp, resolve, hcc, Deferred.ofValue, Sem.run_bind, Sem.run_pure, Result.andThen, invoke]
    simp
  have hgood := hK F1 (callPl pl L) w (as.map a.eval ++ cc) hw (by simp [hal, hcs]) (fun i x hi hx => by
    obtain ⟨v, hv, hvx⟩ := hag i x hx
    have : RepV F1 (memOf w) pl v (as.map a.eval ++ cc)[i] := by
      rcases Nat.lt_or_ge i as.size with g | g
      · rw [List.getElem?_append_left (by simpa using g)] at hv
        have := repMap (F := F1) (w := w) (pl := pl) (l := as.toList) hρ i v (by simpa using g) hv
        rw [Array.getElem_append_left (by simpa using g)]
        simpa using this
      · rw [List.getElem?_append_right (by simpa using g)] at hv
        simp only [List.length_map, Array.length_toList] at hv
        have h2 : i - as.size < cc.size := by rw [hcs]; exact (List.getElem?_eq_some_iff.1 hv).1
        have := hcr (i - as.size) v h2 hv
        rw [Array.getElem_append_right (by simpa using g)]
        simpa using this
    exact arg_sound this h1.wr.frozAt hvx)
  have fin : ∀ cv w', PostC F1 (callPl pl L) objs w (fun v objs' news => freshKb ob1 kb news.length ∧ ∀ a' w', InvE c (({ st with ob := backOb ob1 L kb objs' news } : St).put o.dst (v.ren (backKey L kb))) a' w' → next a' w') cv w' → next (a.put o.dst cv) w' := by
    rintro cv w' ⟨v, objs', news, F', pl', ⟨hfresh, hnext⟩, hb⟩
    obtain ⟨pl'', h2, h3⟩ := back_sound h1 hnd hobjs hk0 hb hfresh
    exact hnext _ _ ⟨F', pl'', h2.put o.dst h3⟩
  unfold Oper.wp
  rw [hrun]
  generalize (callFunc f (as.map a.eval ++ cc)).run P w = r at hgood
  cases r with
  | halt x w' => exact hgood.elim
  | ok x w' =>
    cases x <;> try exact hgood.elim
    · exact fin _ _ hgood
    · exact Calls.mono hgood fun e w'' ⟨v, he, hp⟩ => by
        subst he
        exact fin _ _ hp
end
end Go.Eng

/- A machine of values for the program's code, part 16: what an operation looks at and what it changes. -/
namespace Go.Eng
open Go.RowKit

structure Ann where
  imm : FuncId → List Nat
  keep : Nat → List Nat × List Key
  sw : Nat → Store → List (Key × Key) := fun _ _ => []

def kbO (o : Oper) : Nat :=
  match o.dst with
  | some d => d + 2
  | none => 1
def nkO (o : Oper) : Key := (kbO o, 0)

def sameAt (ks : List Key) (g h : Store) : Prop := ∀ k ∈ ks, g k = h k

/-- What an operation that is no call looks at, and what it may change. -/
def opT (op : Op) (μ : Operand → V) (nk : Key) : List Key × List Key :=
  match op with
  | .alloc _ => ([nk], [nk])
  | .box _ _ => ([nk], [nk])
  | .makeSlice _ _ _ => ([nk], [nk])
  | .buildSlice _ _ parts => (nk :: mentsL (parts.toList.map fun p => μ p.2), nk :: mentsL (parts.toList.map fun p => μ p.2))
  | .load _ a => ((μ a).ments, [])
  | .convert _ _ x => ((μ x).ments, [])
  | .store _ a x => ((μ a).ments ++ (μ x).ments, (μ a).ments ++ (μ x).ments)
  | .call { callee := .builtin .append, args, .. } => match args.toList with
    | [s, x] => (nk :: (μ s).ments ++ (μ x).ments, nk :: (μ s).ments)
    | _ => ([], [])
  | .call { callee := .builtin .copy, args, .. } => match args.toList with
    | [s, x] => ((μ s).ments ++ (μ x).ments, (μ s).ments)
    | _ => ([], [])
  | .call { callee := .builtin .clear, args, .. } => match args.toList with
    | [s] => ((μ s).ments, (μ s).ments)
    | _ => ([], [])
  | _ => ([], [])

theorem frzC_local {g h : Store} {x : V} (hk : sameAt x.ments g h) : frzC g x = frzC h x := by
  cases x <;> try rfl
  rename_i k n i len
  have := hk k (by simp [V.ments])
  simp only [frzC, this]

theorem frzL_local {g h : Store} : ∀ {xs : List V}, sameAt (mentsL xs) g h → frzL g xs = frzL h xs
  | [], _ => rfl
  | x :: xs, hk => by
    simp only [frzL]
    rw [frzC_local (fun k hm => hk k (by simp [mentsL, hm])), frzL_local (xs := xs) (fun k hm => hk k (by simp [mentsL, hm]))]

theorem frz_local {g h : Store} {x : V} (hk : sameAt x.ments g h) : frz g x = frz h x := by
  unfold frz
  split
  · rename_i cs; rw [frzL_local (xs := cs) (by simpa [V.ments] using hk)]
  · exact frzC_local hk

theorem srcV_local {g h : Store} {n : Nat} {st : Bool} {x : V} (hk : sameAt x.ments g h) : srcV g n st x = srcV h n st x := by
  unfold srcV
  split <;> try rfl
  rename_i k n' i len
  rw [hk k (by simp [V.ments])]

theorem putParts_local {n : Nat} {g h : Store} : ∀ {ps : List (Nat × V)} {es : List V}, sameAt (mentsL (ps.map (·.2))) g h → putParts n g es ps = putParts n h es ps
  | [], _, _ => rfl
  | (i, x) :: ps, es, hk => by
    simp only [putParts]
    rw [frz_local (g := g) (h := h) (x := x) (fun k hm => hk k (by simp [mentsL, hm]))]
    split <;> try rfl
    split <;> try rfl
    rename_i x' u _
    rw [putParts_local (ps := ps) (es := es.set i x') (fun k hm => hk k (by simp [mentsL, hm]))]

theorem bytesF_local {g h : Store} {x : V} (hk : sameAt x.ments g h) : bytesF g x = bytesF h x := by
  unfold bytesF
  rw [srcV_local hk]

theorem opF_local {tt : TT} {nk : Key} {op : Op} {μ : Operand → V} {g h : Store} (hk : sameAt (opT op μ nk).1 g h) : opF tt nk op μ g = opF tt nk op μ h := by
  cases op
  case alloc elem =>
    have := hk nk (by simp [opT])
    simp only [opF, makeV, this]
  case box elem x =>
    have := hk nk (by simp [opT])
    simp only [opF, makeV, this]
  case makeSlice t l c =>
    have := hk nk (by simp [opT])
    simp only [opF, makeSliceF, this]
  case buildSlice t len parts =>
    have h1 := hk nk (by simp [opT])
    have h2 : ∀ ei : TI, putParts ei.size g (List.replicate len ei.zeroV) (parts.toList.map fun p => (p.1, μ p.2)) = putParts ei.size h (List.replicate len ei.zeroV) (parts.toList.map fun p => (p.1, μ p.2)) := fun ei =>
      putParts_local (fun k hm => hk k (by simp only [opT, List.mem_cons]; right; simpa [List.map_map, Function.comp_def] using hm))
    simp only [opF, buildSliceF, h1, h2]
  case load t a =>
    simp only [opF]
    split
    · rename_i hl
      have : loadF tt g t (μ a) = loadF tt h t (μ a) := by
        unfold loadF
        split <;> try rfl
        rename_i ti k n i off hti hm
        rw [hk k (by simp only [opT]; rw [hm]; simp [V.ments])]
      rw [this]
    · rfl
  case convert src dst x =>
    simp only [opF]
    rw [bytesF_local (g := g) (h := h) (x := μ x) (fun k hm => hk k (by simpa [opT] using hm))]
  case store t a x =>
    simp only [opF]
    have : storeF tt g t (μ a) (μ x) = storeF tt h t (μ a) (μ x) := by
      unfold storeF
      split <;> try rfl
      rename_i ti k n i off hti hm
      rw [hk k (by simp only [opT]; rw [hm]; simp [V.ments])]
      have hz : ∀ kf, keepOrFrz kf g (μ x) = keepOrFrz kf h (μ x) := by
        intro kf
        unfold keepOrFrz
        split
        · exact frz_local (fun k hm => hk k (by simp [opT, hm]))
        · rfl
      simp only [hz]
    rw [this]
  case call cl =>
    obtain ⟨callee, args, ts⟩ := cl
    cases callee <;> try rfl
    rename_i b
    cases b <;> try rfl
    case append =>
      simp only [opF]
      split <;> try rfl
      rename_i t tx s x hts has
      have hT : (opT (.call { callee := .builtin .append, args := args, argTypes := ts }) μ nk).1 = nk :: (μ s).ments ++ (μ x).ments := by simp only [opT, has]
      rw [hT] at hk
      split
      · have h1 := hk nk (by simp)
        unfold appMakeF
        split <;> try rfl
        split <;> try rfl
        split <;> try rfl
        unfold appendV
        split <;> try rfl
        split <;> try simp only [h1]
        rename_i k n i len hm
        rw [hk k (by rw [hm]; simp [V.ments])]
      unfold appendF
      split <;> try rfl
      split <;> try rfl
      rename_i ei stb _ _
      rw [srcV_local (g := g) (h := h) (x := μ x) (fun k hm => hk k (by simp [hm]))]
      split <;> try rfl
      rename_i xs _
      have h1 := hk nk (by simp)
      unfold appendV
      split <;> try rfl
      split <;> try simp only [h1]
      rename_i k n i len hm
      rw [hk k (by rw [hm]; simp [V.ments])]
    case copy =>
      simp only [opF]
      split <;> try rfl
      rename_i t tx s x hts has
      have hT : (opT (.call { callee := .builtin .copy, args := args, argTypes := ts }) μ nk).1 = (μ s).ments ++ (μ x).ments := by simp only [opT, has]
      rw [hT] at hk
      unfold copyG
      split <;> try rfl
      split <;> try rfl
      split <;> try rfl
      rw [srcV_local (g := g) (h := h) (x := μ x) (fun k hm => hk k (by simp [hm]))]
      split <;> try rfl
      unfold copyF
      split <;> try rfl
      rename_i k n i len hm
      rw [hk k (by rw [hm]; simp [V.ments])]
    case clear =>
      simp only [opF]
      split <;> try rfl
      rename_i t s hts has
      have hT : (opT (.call { callee := .builtin .clear, args := args, argTypes := ts }) μ nk).1 = (μ s).ments := by simp only [opT, has]
      rw [hT] at hk
      unfold clearG
      split <;> try rfl
      split <;> try rfl
      unfold clearF
      split <;> try rfl
      rename_i k n i len hm
      rw [hk k (by rw [hm]; simp [V.ments])]
  all_goals rfl

theorem putParts_keys {n : Nat} {g : Store} : ∀ {ps : List (Nat × V)} {es es' : List V} {us : List (Key × Obj)}, putParts n g es ps = some (es', us) → ∀ u ∈ us, u.1 ∈ mentsL (ps.map (·.2))
  | [], es, es', us, h => by simp only [putParts, Option.some.injEq, Prod.mk.injEq] at h; intro u hu; rw [← h.2] at hu; cases hu
  | (i, x) :: ps, es, es', us, h => by
    simp only [putParts] at h
    split at h <;> try contradiction
    split at h <;> try contradiction
    rename_i x' u hx'
    split at h <;> try contradiction
    rename_i es2 us2 hr
    simp only [Option.some.injEq, Prod.mk.injEq] at h
    obtain ⟨_, rfl⟩ := h
    intro v hv
    simp only [List.map_cons, mentsL, List.mem_append]
    rcases List.mem_append.1 hv with hv | hv
    · exact .inl (frz_keys hx' v hv)
    · exact .inr (putParts_keys hr v hv)

theorem opF_keys {tt : TT} {nk : Key} {op : Op} {μ : Operand → V} {g : Store} {v : V} {ups : List (Key × Obj)} (h : opF tt nk op μ g = some (v, ups)) : ∀ u ∈ ups, u.1 ∈ (opT op μ nk).2 := by
  have none_ : ∀ (y : Option V), opF tt nk op μ g = y.map (fun v => (v, [])) → ∀ u ∈ ups, u.1 ∈ (opT op μ nk).2 := by
    intro y hy u hu
    rw [h] at hy
    obtain ⟨z, _, e⟩ := Option.map_eq_some_iff.1 hy.symm
    simp only [Prod.mk.injEq] at e
    rw [← e.2] at hu; cases hu
  have none1 : opF tt nk op μ g = (pureF tt op μ).map (fun v => (v, [])) → ∀ u ∈ ups, u.1 ∈ (opT op μ nk).2 := none_ _
  cases op
  case alloc elem =>
    simp only [opF, makeV] at h
    split at h <;> try contradiction
    split at h <;> try contradiction
    split at h <;> try contradiction
    simp only [Option.some.injEq, Prod.mk.injEq] at h
    intro u hu; rw [← h.2] at hu; simp at hu; subst hu; simp [opT]
  case box elem x =>
    simp only [opF, makeV] at h
    split at h <;> try contradiction
    split at h <;> try contradiction
    simp only [Option.some.injEq, Prod.mk.injEq] at h
    intro u hu; rw [← h.2] at hu; simp at hu; subst hu; simp [opT]
  case makeSlice t l c =>
    simp only [opF, makeSliceF] at h
    split at h <;> try contradiction
    split at h <;> try contradiction
    split at h <;> try contradiction
    simp only [Option.some.injEq, Prod.mk.injEq] at h
    intro u hu; rw [← h.2] at hu; simp at hu; subst hu; simp [opT]
  case buildSlice t len parts =>
    simp only [opF, buildSliceF] at h
    split at h <;> try contradiction
    split at h <;> try contradiction
    split at h <;> try contradiction
    split at h <;> try contradiction
    rename_i es us hput
    simp only [Option.some.injEq, Prod.mk.injEq] at h
    intro u hu; rw [← h.2] at hu
    rcases List.mem_append.1 hu with hu | hu
    · have := putParts_keys hput u hu
      simp only [opT, List.mem_cons]; right
      simpa [List.map_map, Function.comp_def] using this
    · simp at hu; subst hu; simp [opT]
  case load t a =>
    simp only [opF] at h
    split at h
    · rename_i hl; exact none_ (loadF tt g t (μ a)) (by simp only [opF]; rw [if_pos hl])
    · rename_i hl; exact none_ (pureF tt (.load t a) μ) (by simp only [opF]; rw [if_neg hl])
  case convert src dst x =>
    simp only [opF] at h
    split at h
    · unfold bytesF at h
      split at h <;> try contradiction
      obtain ⟨ns, _, e⟩ := Option.map_eq_some_iff.1 h
      cases e
      intro u hu; cases hu
    · rename_i hl; exact none_ (pureF tt (.convert src dst x) μ) (by simp only [opF]; rw [if_neg hl])
  case store t a x =>
    simp only [opF] at h
    obtain ⟨us, hus, e⟩ := Option.map_eq_some_iff.1 h
    simp only [Prod.mk.injEq] at e
    obtain ⟨_, rfl⟩ := e
    unfold storeF at hus
    split at hus <;> try contradiction
    rename_i ti k n i off hti hm
    split at hus <;> try contradiction
    split at hus <;> try contradiction
    split at hus <;> try contradiction
    split at hus <;> try contradiction
    rename_i y' u0 hy'
    split at hus <;> try contradiction
    simp only [Option.some.injEq] at hus
    intro u hu; rw [← hus] at hu
    simp only [opT, List.mem_append]
    rcases List.mem_append.1 hu with hu | hu
    · right
      unfold keepOrFrz at hy'
      split at hy'
      · exact frz_keys hy' u hu
      · simp only [Option.some.injEq, Prod.mk.injEq] at hy'
        rw [← hy'.2] at hu; cases hu
    · left; simp at hu; subst hu; rw [hm]; simp [V.ments]
  case call cl =>
    obtain ⟨callee, args, ts⟩ := cl
    cases callee
    case value f => exact none1 rfl
    case invoke r m => exact none1 rfl
    rename_i b
    cases b
    case append =>
      simp only [opF] at h
      split at h <;> try contradiction
      rename_i t tx s x hts has
      have hT : (opT (.call { callee := .builtin .append, args := args, argTypes := ts }) μ nk).2 = nk :: (μ s).ments := by simp only [opT, has]
      rw [hT]
      split at h
      · unfold appMakeF at h
        split at h <;> try contradiction
        split at h <;> try contradiction
        split at h <;> try contradiction
        unfold appendV at h
        split at h <;> try contradiction
        split at h
        · split at h
          · simp only [Option.some.injEq, Prod.mk.injEq] at h; intro u hu; rw [← h.2] at hu; cases hu
          · split at h <;> try contradiction
            simp only [Option.some.injEq, Prod.mk.injEq] at h; intro u hu; rw [← h.2] at hu; simp at hu; subst hu; simp
        · split at h
          · simp only [Option.some.injEq, Prod.mk.injEq] at h; intro u hu; rw [← h.2] at hu; cases hu
          · split at h <;> try contradiction
            simp only [Option.some.injEq, Prod.mk.injEq] at h; intro u hu; rw [← h.2] at hu; simp at hu; subst hu; simp
        · rename_i k n i len hm
          split at h <;> try contradiction
          split at h <;> try contradiction
          simp only [Option.some.injEq, Prod.mk.injEq] at h
          intro u hu; rw [← h.2] at hu
          rw [hm]
          simp at hu
          rcases hu with hu | hu <;> subst hu <;> simp [V.ments]
        · cases h
      unfold appendF at h
      split at h <;> try contradiction
      split at h <;> try contradiction
      split at h <;> try contradiction
      unfold appendV at h
      split at h <;> try contradiction
      split at h
      · split at h
        · simp only [Option.some.injEq, Prod.mk.injEq] at h; intro u hu; rw [← h.2] at hu; cases hu
        · split at h <;> try contradiction
          simp only [Option.some.injEq, Prod.mk.injEq] at h; intro u hu; rw [← h.2] at hu; simp at hu; subst hu; simp
      · split at h
        · simp only [Option.some.injEq, Prod.mk.injEq] at h; intro u hu; rw [← h.2] at hu; cases hu
        · split at h <;> try contradiction
          simp only [Option.some.injEq, Prod.mk.injEq] at h; intro u hu; rw [← h.2] at hu; simp at hu; subst hu; simp
      · rename_i k n i len hm
        split at h <;> try contradiction
        split at h <;> try contradiction
        simp only [Option.some.injEq, Prod.mk.injEq] at h
        intro u hu; rw [← h.2] at hu
        rw [hm]
        simp at hu
        rcases hu with hu | hu <;> subst hu <;> simp [V.ments]
      · cases h
    case copy =>
      simp only [opF] at h
      split at h <;> try contradiction
      rename_i t tx s x hts has
      have hT : (opT (.call { callee := .builtin .copy, args := args, argTypes := ts }) μ nk).2 = (μ s).ments := by simp only [opT, has]
      rw [hT]
      unfold copyG at h
      split at h <;> try contradiction
      split at h <;> try contradiction
      split at h <;> try contradiction
      split at h <;> try contradiction
      unfold copyF at h
      split at h <;> try contradiction
      rename_i k n i len hm
      split at h <;> try contradiction
      split at h <;> try contradiction
      simp only [Option.some.injEq, Prod.mk.injEq] at h
      intro u hu; rw [← h.2] at hu; simp at hu; subst hu; rw [hm]; simp [V.ments]
    case clear =>
      simp only [opF] at h
      split at h <;> try contradiction
      rename_i t s hts has
      have hT : (opT (.call { callee := .builtin .clear, args := args, argTypes := ts }) μ nk).2 = (μ s).ments := by simp only [opT, has]
      rw [hT]
      unfold clearG at h
      split at h <;> try contradiction
      split at h <;> try contradiction
      obtain ⟨us, hus, e⟩ := Option.map_eq_some_iff.1 h
      simp only [Prod.mk.injEq] at e
      obtain ⟨_, rfl⟩ := e
      unfold clearF at hus
      split at hus <;> try contradiction
      · rename_i k n i len hm
        split at hus <;> try contradiction
        split at hus <;> try contradiction
        simp only [Option.some.injEq] at hus
        intro u hu; rw [← hus] at hu; simp at hu; subst hu; rw [hm]; simp [V.ments]
      · simp only [Option.some.injEq] at hus; intro u hu; rw [← hus] at hu; cases hu
      · simp only [Option.some.injEq] at hus; intro u hu; rw [← hus] at hu; cases hu
    all_goals exact none1 rfl
  all_goals exact none1 rfl
end Go.Eng

/- A machine of values for the program's code, part 17: what a call looks at and what it changes. -/
namespace Go.Eng
open Go.RowKit

theorem freezeAll_local : ∀ {ks : List Key} {g h h' : Store}, sameAt ks g h → freezeAll h ks = some h' →
    ∃ g', freezeAll g ks = some g' ∧ (∀ k, g k = h k → g' k = h' k) ∧ (∀ k, k ∉ ks → g' k = g k ∧ h' k = h k)
  | [], g, h, h', _, hf => by
    simp only [freezeAll, Option.some.injEq] at hf; subst hf
    exact ⟨g, rfl, fun k hk => hk, fun k _ => ⟨rfl, rfl⟩⟩
  | k :: ks, g, h, h', hs, hf => by
    have hk := hs k (by simp)
    have hs' : sameAt ks g h := fun l hl => hs l (by simp [hl])
    simp only [freezeAll] at hf ⊢
    rw [hk]
    split at hf
    · rename_i n es he
      obtain ⟨g', h1, h2, h3⟩ := freezeAll_local (g := g.set k (.froz n es)) (fun l hl => by
        by_cases e : l = k
        · rw [e, Store.set_self, Store.set_self]
        · rw [Store.set_ne _ _ e, Store.set_ne _ _ e]; exact hs' l hl) hf
      refine ⟨g', h1, fun l hl => h2 l ?_, fun l hl => ?_⟩
      · by_cases e : l = k
        · rw [e, Store.set_self, Store.set_self]
        · rw [Store.set_ne _ _ e, Store.set_ne _ _ e]; exact hl
      · simp only [List.mem_cons, not_or] at hl
        obtain ⟨a1, a2⟩ := h3 l hl.2
        rw [a1, a2, Store.set_ne _ _ hl.1, Store.set_ne _ _ hl.1]
        exact ⟨rfl, rfl⟩
    · obtain ⟨g', h1, h2, h3⟩ := freezeAll_local hs' hf
      exact ⟨g', h1, h2, fun l hl => h3 l (fun h => hl (by simp [h]))⟩
    · cases hf

theorem addKeys_local {g h : Store} : ∀ {ks acc : List Key}, sameAt ks g h → addKeys g acc ks = addKeys h acc ks
  | [], _, _ => rfl
  | k :: ks, acc, hs => by
    unfold addKeys
    rw [hs k (by simp)]
    split
    · exact addKeys_local (fun l hl => hs l (by simp [hl]))
    · exact addKeys_local (fun l hl => hs l (by simp [hl]))

theorem addKeys_sub {g : Store} : ∀ {ks acc : List Key}, ∀ k ∈ acc, k ∈ addKeys g acc ks
  | [], _, k, hk => hk
  | l :: ks, acc, k, hk => by
    unfold addKeys
    split
    · exact addKeys_sub k hk
    · exact addKeys_sub k (by simp [hk])

theorem reachN_sub {g : Store} : ∀ {n : Nat} {acc : List Key}, ∀ k ∈ acc, k ∈ reachN g n acc
  | 0, _, k, hk => hk
  | n + 1, acc, k, hk => by
    simp only [reachN]
    exact reachN_sub (n := n) k (addKeys_sub k hk)

theorem reachN_local {g h : Store} : ∀ {n : Nat} {acc : List Key}, sameAt (reachN h n acc) g h → sameAt ((reachN h n acc).flatMap (obMents h)) g h → reachN g n acc = reachN h n acc
  | 0, _, _, _ => rfl
  | n + 1, acc, h1, h2 => by
    simp only [reachN] at h1 h2 ⊢
    have hacc : ∀ k ∈ acc, k ∈ reachN h n (addKeys h acc (acc.flatMap (obMents h))) := fun k hk => reachN_sub k (addKeys_sub k hk)
    have e1 : acc.flatMap (obMents g) = acc.flatMap (obMents h) := by
      rw [List.flatMap_def, List.flatMap_def]
      congr 1
      refine List.map_congr_left fun k hk => ?_
      unfold obMents
      rw [h1 k (hacc k hk)]
    have e2 : addKeys g acc (acc.flatMap (obMents g)) = addKeys h acc (acc.flatMap (obMents h)) := by
      rw [e1]
      refine addKeys_local fun k hk => h2 k ?_
      obtain ⟨l, hl, hkl⟩ := List.mem_flatMap.1 hk
      exact List.mem_flatMap.2 ⟨l, hacc l hl, hkl⟩
    rw [e2]
    exact reachN_local h1 h2

mutual
theorem argC_local {g h : Store} {L : List Key} : ∀ {v : V}, sameAt v.ments g h → argC g L v = argC h L v
  | .lp k n i o, hs => by simp only [argC]; rw [hs k (by simp [V.ments])]
  | .ls k n i len, hs => by simp only [argC]; rw [hs k (by simp [V.ments])]
  | .fn f cs, hs => by simp only [argC]; rw [argL_local (vs := cs) (by simpa only [V.ments] using hs)]
  | .agg cs, hs => by simp only [argC]; rw [argL_local (vs := cs) (by simpa only [V.ments] using hs)]
  | .tup cs, hs => by simp only [argC]; rw [argL_local (vs := cs) (by simpa only [V.ments] using hs)]
  | .un, _ => by simp only [argC]
  | .e0, _ => by simp only [argC]
  | .lit v, _ => by simp only [argC]
  | .ip n es i o, _ => by simp only [argC]
  | .is n es, _ => by simp only [argC]
theorem argL_local {g h : Store} {L : List Key} : ∀ {vs : List V}, sameAt (mentsL vs) g h → argL g L vs = argL h L vs
  | [], _ => by simp only [argL]
  | v :: vs, hs => by
    simp only [argL]
    rw [argC_local (v := v) (fun k hk => hs k (by simp [mentsL, hk])), argL_local (vs := vs) (fun k hk => hs k (by simp [mentsL, hk]))]
end

theorem objsC_local {g h : Store} {L : List Key} : ∀ {ks : List Key}, sameAt ks g h → sameAt (ks.flatMap (obMents h)) g h → objsC g L ks = objsC h L ks
  | [], _, _ => rfl
  | k :: ks, h1, h2 => by
    simp only [objsC]
    have e := h1 k (by simp)
    rw [e, objsC_local (ks := ks) (fun l hl => h1 l (by simp [hl])) (fun l hl => h2 l (by simp [List.flatMap_cons, hl]))]
    cases hk : h k with
    | none => rfl
    | some x =>
      have : objC g L x = objC h L x := by
        cases x with
        | dead => rfl
        | froz n es => rfl
        | arr kf n es =>
          cases kf with
          | true => rfl
          | false =>
            simp only [objC]
            rw [argL_local (vs := es) (fun l hl => h2 l (by
              simp only [List.flatMap_cons, List.mem_append]; left
              simpa [obMents, hk, Obj.ments] using hl))]
      simp only [this]

/-- What a call looks at, and what it may change (but for its own new objects). -/
def callT (imm : FuncId → List Nat) (ob : Store) (f : FuncId) (vs : List V) : List Key × List Key :=
  match freezeAll ob (frzKeys (imm f) vs) with
  | none => (frzKeys (imm f) vs, [])
  | some ob1 => (frzKeys (imm f) vs ++ mentsL vs ++ reach ob1 vs ++ (reach ob1 vs).flatMap (obMents ob1), frzKeys (imm f) vs ++ reach ob1 vs)

theorem callT_same {imm : FuncId → List Nat} {g h : Store} {f : FuncId} {vs : List V} (hs : sameAt (callT imm h f vs).1 g h) : callT imm g f vs = callT imm h f vs := by
  cases hfr : freezeAll h (frzKeys (imm f) vs) with
  | none =>
    have hs' : sameAt (frzKeys (imm f) vs) g h := by simpa only [callT, hfr] using hs
    have : freezeAll g (frzKeys (imm f) vs) = none := by
      cases hg : freezeAll g (frzKeys (imm f) vs) with
      | none => rfl
      | some g1 =>
        obtain ⟨h1, e, _⟩ := freezeAll_local (g := h) (h := g) (fun k hk => (hs' k hk).symm) hg
        rw [hfr] at e; cases e
    simp only [callT, hfr, this]
  | some h1 =>
    have hs' : sameAt (frzKeys (imm f) vs ++ mentsL vs ++ reach h1 vs ++ (reach h1 vs).flatMap (obMents h1)) g h := by simpa only [callT, hfr] using hs
    obtain ⟨g1, hg1, hg2, hg3⟩ := freezeAll_local (ks := frzKeys (imm f) vs) (g := g) (h := h) (fun k hk => hs' k (by simp [hk])) hfr
    have hin1 : ∀ k, k ∈ frzKeys (imm f) vs ++ mentsL vs ++ reach h1 vs ++ (reach h1 vs).flatMap (obMents h1) → g1 k = h1 k := fun k hk => hg2 k (hs' k hk)
    have hreach : reach g1 vs = reach h1 vs := by
      have e1 : addKeys g1 [] (mentsL vs) = addKeys h1 [] (mentsL vs) := addKeys_local fun k hk => hin1 k (by simp [hk])
      unfold reach
      rw [e1]
      exact reachN_local (fun k hk => hin1 k (by simp only [List.mem_append]; left; right; exact hk)) (fun k hk => hin1 k (by simp only [List.mem_append]; right; exact hk))
    have hment : (reach h1 vs).flatMap (obMents g1) = (reach h1 vs).flatMap (obMents h1) := by
      rw [List.flatMap_def, List.flatMap_def]
      congr 1
      refine List.map_congr_left fun k hk => ?_
      unfold obMents
      rw [hin1 k (by simp [hk])]
    simp only [callT, hfr, hg1, hreach, hment]

theorem sets_mem {g h : Store} {ups : List (Key × Obj)} {k : Key} (hk : ∃ u ∈ ups, u.1 = k) : g.sets ups k = h.sets ups k := by
  induction ups generalizing g h with
  | nil => obtain ⟨u, hu, _⟩ := hk; cases hu
  | cons u t ih =>
    simp only [Store.sets]
    by_cases ht : ∃ v ∈ t, v.1 = k
    · exact ih ht
    · obtain ⟨v, hv, e⟩ := hk
      rcases List.mem_cons.1 hv with rfl | hv
      · have hn : ∀ x ∈ t, x.1 ≠ k := fun x hx e => ht ⟨x, hx, e⟩
        rw [sets_ne hn, sets_ne hn, ← e, Store.set_self, Store.set_self]
      · exact absurd ⟨v, hv, e⟩ ht

theorem callG_frame {P : Program} {imm : FuncId → List Nat} {kb : Nat} {g : Store} {ups : List (Key × Obj)} {f : FuncId} {vs : List V} {K : V → Store → Prop}
    (hT : ∀ u ∈ ups, u.1 ∉ (callT imm (g.sets ups) f vs).1 ∧ u.1.1 ≠ kb) (h : callG P imm kb (g.sets ups) f vs K) :
    callT imm g f vs = callT imm (g.sets ups) f vs ∧
    callG P imm kb g f vs fun v ob' => (∀ k, k ∉ (callT imm g f vs).2 → k.1 ≠ kb → ob' k = g k) ∧ K v (ob'.sets ups) := by
  have hagree : ∀ k, (∀ u ∈ ups, u.1 ≠ k) → g k = g.sets ups k := fun k hk => (sets_ne hk).symm
  unfold callG at h
  split at h
  · exact h.elim
  rename_i h1 hfr
  have hT' : ∀ u ∈ ups, u.1 ∉ frzKeys (imm f) vs ++ mentsL vs ++ reach h1 vs ++ (reach h1 vs).flatMap (obMents h1) ∧ u.1.1 ≠ kb := by
    intro u hu
    have := hT u hu
    simp only [callT, hfr] at this
    exact this
  have hin : ∀ k, k ∈ frzKeys (imm f) vs ++ mentsL vs ++ reach h1 vs ++ (reach h1 vs).flatMap (obMents h1) → g k = g.sets ups k :=
    fun k hk => hagree k fun u hu e => (hT' u hu).1 (e ▸ hk)
  obtain ⟨g1, hg1, hg2, hg3⟩ := freezeAll_local (ks := frzKeys (imm f) vs) (g := g) (h := g.sets ups) (fun k hk => hin k (by simp [hk])) hfr
  have hin1 : ∀ k, k ∈ frzKeys (imm f) vs ++ mentsL vs ++ reach h1 vs ++ (reach h1 vs).flatMap (obMents h1) → g1 k = h1 k := fun k hk => hg2 k (hin k hk)
  have hreach : reach g1 vs = reach h1 vs := by
    have e1 : addKeys g1 [] (mentsL vs) = addKeys h1 [] (mentsL vs) := addKeys_local fun k hk => hin1 k (by simp [hk])
    unfold reach
    rw [e1]
    exact reachN_local (fun k hk => hin1 k (by simp only [List.mem_append]; left; right; exact hk)) (fun k hk => hin1 k (by simp only [List.mem_append]; right; exact hk))
  have hment : (reach h1 vs).flatMap (obMents g1) = (reach h1 vs).flatMap (obMents h1) := by
    rw [List.flatMap_def, List.flatMap_def]
    congr 1
    refine List.map_congr_left fun k hk => ?_
    unfold obMents
    rw [hin1 k (by simp [hk])]
  have hTT : callT imm g f vs = callT imm (g.sets ups) f vs := by
    simp only [callT, hfr, hg1, hreach, hment]
  refine ⟨hTT, ?_⟩
  have hW : (callT imm g f vs).2 = frzKeys (imm f) vs ++ reach h1 vs := by simp only [callT, hg1, hreach]
  unfold callG
  rw [hg1]
  simp only
  rw [hreach]
  have ea : argL g1 (reach h1 vs) vs = argL h1 (reach h1 vs) vs := argL_local fun k hk => hin1 k (by simp [hk])
  have eo : objsC g1 (reach h1 vs) (reach h1 vs) = objsC h1 (reach h1 vs) (reach h1 vs) := objsC_local (fun k hk => hin1 k (by simp [hk])) (fun k hk => hin1 k (by simp only [List.mem_append]; right; exact hk))
  rw [ea, eo]
  split at h
  · rename_i args objs hargs hobjs
    refine h.mono fun v objs' news ⟨hfresh, hK⟩ => ⟨fun j hj => ?_, fun k hk hkb => ?_, ?_⟩
    · have := hfresh j hj
      rw [hg2 (kb, j) (hagree _ fun u hu e => (hT' u hu).2 (by rw [e])), this]
    · rw [hW] at hk
      simp only [List.mem_append, not_or] at hk
      unfold backOb
      rw [if_neg hk.2, if_neg (fun h => hkb h.1)]
      exact (hg3 k hk.1).1
    · have : (backOb g1 (reach h1 vs) kb objs' news).sets ups = backOb h1 (reach h1 vs) kb objs' news := by
        funext k
        by_cases hk : ∃ u ∈ ups, u.1 = k
        · obtain ⟨u, hu, e⟩ := hk
          have hu' := hT' u hu
          rw [e] at hu'
          simp only [List.mem_append, not_or] at hu'
          rw [sets_mem (h := g) ⟨u, hu, e⟩]
          unfold backOb
          rw [if_neg hu'.1.1.2, if_neg (fun h => hu'.2 h.1)]
          exact (hg3 k hu'.1.1.1.1).2.symm
        · have hk' : ∀ u ∈ ups, u.1 ≠ k := fun u hu e => hk ⟨u, hu, e⟩
          rw [sets_ne hk']
          unfold backOb
          rw [hg2 k (hagree k hk')]
      rw [this]
      exact hK
  · exact h.elim
end Go.Eng
