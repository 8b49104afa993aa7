/- A machine of values for the program's code, part 13: calls. -/
import Derived.Test.YtpfmaiiolifblaaXPoll11
namespace Go.Eng
open Go.RowKit

def argOb (objs : List Obj) : Store := fun k => if k.1 = 0 then objs[k.2]? else none
def resOb (objs news : List Obj) : Store := fun k => if k.1 = 0 then objs[k.2]? else if k.1 = 1 then news[k.2]? else none

/-- The cells that a call is handed to change. -/
def handed (pl : Places) (objs : List Obj) : Cells := fun b o => ∃ (j : Nat) (x : Obj) (p : Pl), objs[j]? = some x ∧ x.live = true ∧ pl (0, j) = some p ∧ p.has b o

/-- What stands behind a call. -/
structure Back (F : Cells) (pl : Places) (objs : List Obj) (w : World) (F' : Cells) (pl' : Places) (objs' news : List Obj) (w' : World) (v : V) (cv : Value) : Prop where
  rep : RepV F' (memOf w') pl' v cv
  wr : WR F' pl' (resOb objs' news) w'
  len : objs'.length = objs.length
  plk : ∀ j, j < objs.length → pl' (0, j) = pl (0, j)
  fF : ∀ b o, F b o → F' b o
  fX : ∀ b o, F' b o → F b o ∨ handed pl objs b o ∨ w.heap.size ≤ b
  own : ∀ k x p b o, resOb objs' news k = some x → x.live = true → pl' k = some p → p.has b o → handed pl objs b o ∨ w.heap.size ≤ b
  same : Same (handed pl objs) w w'

def PostC (F : Cells) (pl : Places) (objs : List Obj) (w : World) (K : V → List Obj → List Obj → Prop) (cv : Value) (w' : World) : Prop :=
  ∃ v objs' news F' pl', K v objs' news ∧ Back F pl objs w F' pl' objs' news w' v cv

/-- What a run of `callFunc` comes to. -/
def comesTo (P : Program) (post : Value → World → Prop) : Result Next → Prop
  | .ok (.value v) w' => post v w'
  | .ok (.enter f args) w' => Calls P f args w' fun e w'' => ∃ v, e = .returned v ∧ post v w''
  | _ => False

/-- A call of function f at values and objects: it returns, and what it returns and leaves is one of what K takes. -/
def AC (P : Program) (f : FuncId) (args : List V) (objs : List Obj) (K : V → List Obj → List Obj → Prop) : Prop :=
  ∀ (F : Cells) (pl : Places) (w : World) (cargs : Array Value), WR F pl (argOb objs) w → cargs.size = args.length → (∀ (i : Nat) x (hi : i < cargs.size), args[i]? = some x → RepV F (memOf w) pl x cargs[i]) →
    comesTo P (PostC F pl objs w K) ((callFunc f cargs).run P w)

theorem comesTo.mono {P : Program} {p q : Value → World → Prop} (h : ∀ v w, p v w → q v w) {r : Result Next} (hr : comesTo P p r) : comesTo P q r := by
  cases r with
  | halt x w => exact hr.elim
  | ok a w =>
    cases a <;> first
      | exact h _ _ hr
      | exact Calls.mono hr fun e w ⟨v, he, hp⟩ => ⟨v, he, h _ _ hp⟩
      | exact hr.elim

theorem AC.mono {P : Program} {f : FuncId} {args : List V} {objs : List Obj} {K K' : V → List Obj → List Obj → Prop} (h : AC P f args objs K) (hk : ∀ v a b, K v a b → K' v a b) : AC P f args objs K' :=
  fun F pl w cargs h1 h2 h3 => (h F pl w cargs h1 h2 h3).mono fun _ _ ⟨v, a, b, F', pl', hK, hb⟩ => ⟨v, a, b, F', pl', hk _ _ _ hK, hb⟩

def idxOf (k : Key) : List Key → Nat
  | [] => 0
  | l :: ls => if l = k then 0 else idxOf k ls + 1

theorem idxOf_get {k : Key} : ∀ {L : List Key}, k ∈ L → L[idxOf k L]? = some k
  | l :: ls, h => by
    unfold idxOf
    split
    · rename_i e; simp [e]
    · rename_i e
      cases h with
      | head => exact absurd rfl e
      | tail _ h => simpa using idxOf_get h

theorem idxOf_of_get {L : List Key} (hn : L.Nodup) {j : Nat} {k : Key} (h : L[j]? = some k) : idxOf k L = j := by
  induction L generalizing j with
  | nil => simp at h
  | cons l ls ih =>
    unfold idxOf
    cases j with
    | zero => simp at h; simp [h]
    | succ j =>
      simp at h
      have hm : k ∈ ls := List.mem_of_getElem? h
      rw [List.nodup_cons] at hn
      rw [if_neg (by rintro rfl; exact hn.1 hm), ih hn.2 h]

mutual
/-- A value as a callee sees it: its objects by their places in L; what is no longer written, by what it holds. -/
def argC (get : Store) (L : List Key) : V → Option V
  | .lp k n i o => match get k with
    | some (.froz n' es) => if n' = n then some (.ip n es i o) else none
    | _ => if k ∈ L then some (.lp (0, idxOf k L) n i o) else none
  | .ls k n i len => match get k with
    | some (.froz n' es) => if n' = n ∧ i + len ≤ es.length then some (.is n ((es.drop i).take len)) else none
    | _ => if k ∈ L then some (.ls (0, idxOf k L) n i len) else none
  | .fn f cs => match argL get L cs with
    | some cs => some (.fn f cs)
    | none => none
  | .agg cs => match argL get L cs with
    | some cs => some (.agg cs)
    | none => none
  | .tup cs => match argL get L cs with
    | some cs => some (.tup cs)
    | none => none
  | .un => some .un
  | .e0 => some .e0
  | .lit v => some (.lit v)
  | .ip n es i o => some (.ip n es i o)
  | .is n es => some (.is n es)
def argL (get : Store) (L : List Key) : List V → Option (List V)
  | [] => some []
  | v :: vs => match argC get L v with
    | some v => match argL get L vs with
      | some vs => some (v :: vs)
      | none => none
    | none => none
end

theorem argL_get {get : Store} {L : List Key} : ∀ {vs us : List V}, argL get L vs = some us → us.length = vs.length ∧ ∀ (i : Nat) u, us[i]? = some u → ∃ v, vs[i]? = some v ∧ argC get L v = some u
  | [], us, h => by simp [argL] at h; subst h; exact ⟨rfl, fun i u hu => by simp at hu⟩
  | v :: vs, us, h => by
    simp only [argL] at h
    split at h <;> try contradiction
    rename_i v' hv
    split at h <;> try contradiction
    rename_i vs' hvs
    simp only [Option.some.injEq] at h
    subst h
    obtain ⟨h1, h2⟩ := argL_get hvs
    refine ⟨by simp [h1], fun i u hu => ?_⟩
    cases i with
    | zero => simp at hu; subst hu; exact ⟨v, rfl, hv⟩
    | succ i => simpa using h2 i u (by simpa using hu)

def callPl (pl : Places) (L : List Key) : Places := fun k => if k.1 = 0 then (L[k.2]?).bind pl else none

def FrozAt (F : Cells) (m : Mem) (pl : Places) (ob : Store) : Prop := ∀ k n es, ob k = some (.froz n es) → ∃ p, pl k = some p ∧ p.n = n ∧
  ∀ (j : Nat) e, es[j]? = some e → RepE F m noPl p.b (p.base + j * n) n e ∧ ∀ c, c < n → F p.b (p.base + j * n + c)

theorem WR.frozAt {F : Cells} {pl : Places} {ob : Store} {w : World} (h : WR F pl ob w) : FrozAt F (memOf w) pl ob := by
  intro k n es hk
  obtain ⟨p, hp, h1, _, _, h4⟩ := h.rep k _ hk
  exact ⟨p, hp, h1, h4⟩

theorem isPtr {F : Cells} {m : Mem} {pl : Places} {p : Pl} {n i off : Nat} {es : List V} (hr : ∀ (j : Nat) e, es[j]? = some e → RepE F m noPl p.b (p.base + j * n) n e ∧ ∀ c, c < n → F p.b (p.base + j * n + c)) :
    RepV F m pl (.ip n es i off) (.pointer (some ⟨p.b, p.base + i * n + off, none⟩)) := by
  let cf : Nat → Nat → Value := fun j c => (m p.b (p.base + j * n + c)).getD undef
  have hcf : ∀ (j : Nat) e (c : Nat) x, es[j]? = some e → e.cells[c]? = some x → scal x = true ∧ F p.b (p.base + j * n + c) ∧ m p.b (p.base + j * n + c) = some (cf j c) ∧ RepV F m noPl x (cf j c) := by
    intro j e c x he hx
    obtain ⟨⟨h1, h2⟩, h3⟩ := hr _ e he
    obtain ⟨g1, cv, g2, g3⟩ := h2 c x hx
    have e1 : cf j c = cv := by simp only [cf, g2, Option.getD_some]
    exact ⟨g1, h3 c (by rw [← h1]; exact (List.getElem?_eq_some_iff.1 hx).1), by rw [e1]; exact g2, by rw [e1]; exact g3⟩
  exact .ip cf (fun j e he => (hr j e he).1.1) (fun j e c x he hx => ⟨(hcf j e c x he hx).1, (hcf j e c x he hx).2.1, (hcf j e c x he hx).2.2.1⟩) (fun j e c x he hx => (hcf j e c x he hx).2.2.2)

theorem callPl_get {pl : Places} {L : List Key} {k : Key} (h : k ∈ L) : callPl pl L (0, idxOf k L) = pl k := by
  simp [callPl, idxOf_get h]

theorem arg_sound {F : Cells} {m : Mem} {pl : Places} {ob : Store} {L : List Key} {v : V} {cv : Value} (h : RepV F m pl v cv) : FrozAt F m pl ob →
    ∀ {u : V}, argC ob L v = some u → RepV F m (callPl pl L) u cv := by
  have many : ∀ {pl : Places} {vs : List V} {cs : Array Value}, FrozAt F m pl ob → cs.size = vs.length → (∀ (i : Nat) x (h : i < cs.size), vs[i]? = some x → FrozAt F m pl ob → ∀ {u : V}, argC ob L x = some u → RepV F m (callPl pl L) u cs[i]) →
      ∀ {us : List V}, argL ob L vs = some us → cs.size = us.length ∧ ∀ (i : Nat) u (h : i < cs.size), us[i]? = some u → RepV F m (callPl pl L) u cs[i] := by
    intro pl vs cs hw hs hi us hu
    obtain ⟨h1, h2⟩ := argL_get hu
    refine ⟨by rw [hs, h1], fun i u hi' hu' => ?_⟩
    obtain ⟨x, hx, hxu⟩ := h2 i u hu'
    exact hi i x hi' hx hw hxu
  induction h with
  | un => intro hw u hu; simp only [argC, Option.some.injEq] at hu; subst hu; exact .un
  | lit => intro hw u hu; simp only [argC, Option.some.injEq] at hu; subst hu; exact .lit
  | e0 => intro hw u hu; simp only [argC, Option.some.injEq] at hu; subst hu; exact .e0
  | e0n => intro hw u hu; simp only [argC, Option.some.injEq] at hu; subst hu; exact .e0n
  | isn => intro hw u hu; simp only [argC, Option.some.injEq] at hu; subst hu; exact .isn
  | ip cf h1 h2 h3 ih => intro hw u hu; simp only [argC, Option.some.injEq] at hu; subst hu; exact .ip cf h1 h2 h3
  | is cf h0 h00 h1 h2 h3 ih => intro hw u hu; simp only [argC, Option.some.injEq] at hu; subst hu; exact .is cf h0 h00 h1 h2 h3
  | lp hp hn =>
    intro hw u hu
    simp only [argC] at hu
    split at hu
    · rename_i hob
      split at hu <;> try contradiction
      rename_i e; subst e
      simp only [Option.some.injEq] at hu; subst hu
      obtain ⟨q, hq, h1, h2⟩ := hw _ _ _ hob
      cases hp.symm.trans hq
      exact isPtr h2
    · split at hu <;> try contradiction
      rename_i hk
      simp only [Option.some.injEq] at hu; subst hu
      exact .lp (by rw [callPl_get hk]; exact hp) hn
  | ls hp hn h1 h2 h3 =>
    intro hw u hu
    simp only [argC] at hu
    split at hu
    · rename_i hob
      split at hu <;> try contradiction
      rename_i e
      obtain ⟨e, hle⟩ := e
      subst e
      simp only [Option.some.injEq] at hu; subst hu
      obtain ⟨q, hq, _, g2⟩ := hw _ _ _ hob
      cases hp.symm.trans hq
      exact isRow hle h1 h3 g2
    · split at hu <;> try contradiction
      rename_i hk
      simp only [Option.some.injEq] at hu; subst hu
      exact .ls (by rw [callPl_get hk]; exact hp) hn h1 h2 h3
  | fn cs h1 _ ih =>
    intro hw u hu
    simp only [argC] at hu
    split at hu <;> try contradiction
    rename_i cs' hcs
    simp only [Option.some.injEq] at hu; subst hu
    obtain ⟨g1, g2⟩ := many hw h1 ih hcs
    exact .fn cs g1 (fun i x h hx => g2 i x h hx)
  | agg cs h1 _ ih =>
    intro hw u hu
    simp only [argC] at hu
    split at hu <;> try contradiction
    rename_i cs' hcs
    simp only [Option.some.injEq] at hu; subst hu
    obtain ⟨g1, g2⟩ := many hw h1 ih hcs
    exact .agg cs g1 (fun i x h hx => g2 i x h hx)
  | tup cs h1 _ ih =>
    intro hw u hu
    simp only [argC] at hu
    split at hu <;> try contradiction
    rename_i cs' hcs
    simp only [Option.some.injEq] at hu; subst hu
    obtain ⟨g1, g2⟩ := many hw h1 ih hcs
    exact .tup cs g1 (fun i x h hx => g2 i x h hx)

def objC (get : Store) (L : List Key) : Obj → Option Obj
  | .dead => some .dead
  | .arr true n es => some (.arr true n es)
  | .arr false n es => match argL get L es with
    | some es => some (.arr false n es)
    | none => none
  | .froz _ _ => none

def objsC (get : Store) (L : List Key) : List Key → Option (List Obj)
  | [] => some []
  | k :: ks => match get k with
    | some x => match objC get L x with
      | some x => match objsC get L ks with
        | some xs => some (x :: xs)
        | none => none
      | none => none
    | none => none

theorem objsC_get {get : Store} {L : List Key} : ∀ {ks : List Key} {xs : List Obj}, objsC get L ks = some xs → xs.length = ks.length ∧ ∀ (i : Nat) x, xs[i]? = some x → ∃ k y, ks[i]? = some k ∧ get k = some y ∧ objC get L y = some x
  | [], xs, h => by simp [objsC] at h; subst h; exact ⟨rfl, fun i u hu => by simp at hu⟩
  | k :: ks, xs, h => by
    simp only [objsC] at h
    split at h <;> try contradiction
    rename_i y hy
    split at h <;> try contradiction
    rename_i x hx
    split at h <;> try contradiction
    rename_i xs' hxs
    simp only [Option.some.injEq] at h
    subst h
    obtain ⟨h1, h2⟩ := objsC_get hxs
    refine ⟨by simp [h1], fun i u hu => ?_⟩
    cases i with
    | zero => simp at hu; subst hu; exact ⟨k, y, rfl, hy, hx⟩
    | succ i => simpa using h2 i u (by simpa using hu)

theorem argC_cells {get : Store} {L : List Key} {e e' : V} (h : argC get L e = some e') : e'.cells.length = e.cells.length ∧ ∀ (c : Nat) x', e'.cells[c]? = some x' → ∃ x, e.cells[c]? = some x ∧ argC get L x = some x' := by
  by_cases ha : ∃ cs, e = .agg cs
  · obtain ⟨cs, rfl⟩ := ha
    simp only [argC] at h
    split at h <;> try contradiction
    rename_i cs' hcs
    simp only [Option.some.injEq] at h; subst h
    exact argL_get hcs
  · have h1 : e.cells = [e] := by cases e <;> first | rfl | exact absurd ⟨_, rfl⟩ ha
    have h2 : e'.cells = [e'] := by
      cases e <;> simp only [argC] at h
      case agg cs => exact absurd ⟨_, rfl⟩ ha
      all_goals (repeat' split at h) <;> first | contradiction | (simp only [Option.some.injEq] at h; subst h; rfl)
    rw [h1, h2]
    refine ⟨rfl, fun c x' hx => ?_⟩
    have hc : c = 0 := by have := (List.getElem?_eq_some_iff.1 hx).1; simp at this; exact this
    subst hc
    simp at hx; subst hx
    exact ⟨e, rfl, h⟩

theorem argC_scal {get : Store} {L : List Key} {e e' : V} (h : argC get L e = some e') (hs : scal e = true) : scal e' = true := by
  cases e <;> simp only [argC] at h
  case agg cs => simp [scal] at hs
  case tup cs => simp [scal] at hs
  case un => simp [scal] at hs
  case lit v => simp only [Option.some.injEq] at h; subst h; exact hs
  all_goals (repeat' split at h) <;> first | contradiction | (simp only [Option.some.injEq] at h; subst h; rfl)

/-- The store that a call is handed. -/
theorem handOver {F : Cells} {pl : Places} {ob : Store} {w : World} (hw : WR F pl ob w) {L : List Key} (hn : L.Nodup) {objs : List Obj} (ho : objsC ob L L = some objs) : WR F (callPl pl L) (argOb objs) w := by
  obtain ⟨hl, hg⟩ := objsC_get ho
  have hfz := hw.frozAt
  have look : ∀ k x, argOb objs k = some x → ∃ l y, L[k.2]? = some l ∧ k.1 = 0 ∧ ob l = some y ∧ objC ob L y = some x ∧ callPl pl L k = pl l := by
    intro k x hk
    unfold argOb at hk
    split at hk <;> try contradiction
    rename_i h0
    obtain ⟨l, y, h1, h2, h3⟩ := hg _ _ hk
    exact ⟨l, y, h1, h0, h2, h3, by simp [callPl, h0, h1]⟩
  have livee : ∀ {x y : Obj}, objC ob L y = some x → x.live = true → y.live = true := by
    intro x y h hx
    cases y with
    | dead => simp [objC] at h; subst h; cases hx
    | froz n es => simp [objC] at h
    | arr kf n es => rfl
  refine ⟨fun k x hk => ?_, fun k hk => ?_, fun k1 k2 x y p q b o hne h1 h2 hx hy hp hq hpo hqo => ?_, hw.fex⟩
  · obtain ⟨l, y, g1, g2, g3, g4, g5⟩ := look k x hk
    obtain ⟨p, hp, hr⟩ := hw.rep l y g3
    refine ⟨p, by rw [g5]; exact hp, ?_⟩
    cases y with
    | dead => simp [objC] at g4; subst g4; trivial
    | froz n es => simp [objC] at g4
    | arr kf n es =>
      obtain ⟨r1, r2, r3, r4, r5⟩ := hr
      cases kf with
      | true => simp [objC] at g4; subst g4; exact ⟨r1, r2, r3, r4, r5⟩
      | false =>
        simp only [objC] at g4
        split at g4 <;> try contradiction
        rename_i es' hes
        simp only [Option.some.injEq] at g4; subst g4
        obtain ⟨e1, e2⟩ := argL_get hes
        refine ⟨r1, r2, by rw [e1]; exact r3, r4, fun j e' he' => ?_⟩
        obtain ⟨e, he, hee⟩ := e2 j e' he'
        obtain ⟨s1, s2⟩ := r5 j e he
        obtain ⟨c1, c2⟩ := argC_cells hee
        refine ⟨by rw [c1]; exact s1, fun c x' hx' => ?_⟩
        obtain ⟨x, hx, hxx⟩ := c2 c x' hx'
        obtain ⟨t1, cv, t2, t3⟩ := s2 c x hx
        exact ⟨argC_scal hxx t1, cv, t2, arg_sound (by simpa [Obj.plc] using t3) hfz hxx⟩
  · unfold argOb at hk
    unfold callPl
    split at hk
    · rename_i h0
      rw [if_pos h0]
      have : L[k.2]? = none := by
        rw [List.getElem?_eq_none_iff] at hk ⊢; omega
      simp [this]
    · rename_i h0; rw [if_neg h0]
  · obtain ⟨l1, y1, a1, a2, a3, a4, a5⟩ := look k1 x h1
    obtain ⟨l2, y2, b1, b2, b3, b4, b5⟩ := look k2 y h2
    rw [a5] at hp; rw [b5] at hq
    refine hw.dis l1 l2 y1 y2 p q b o ?_ a3 b3 (livee a4 hx) (livee b4 hy) hp hq hpo hqo
    rintro rfl
    apply hne
    have e1 := idxOf_of_get hn a1
    have e2 := idxOf_of_get hn b1
    exact Prod.ext (by rw [a2, b2]) (by rw [← e1, ← e2])
end Go.Eng
