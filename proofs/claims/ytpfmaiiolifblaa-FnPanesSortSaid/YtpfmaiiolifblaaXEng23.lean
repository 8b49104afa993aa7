/- A machine of values for the program's code, part 23: a function. -/
import Derived.Test.YtpfmaiiolifblaaXEng22
namespace Go.Eng
open Go.RowKit

def retOne (tt : TT) (st : St) : ResultVar → Option V
  | .tmp t => some (st.tm.getD t .un)
  | .cell a t => loadF tt st.ob t (st.tm.getD a .un)

def retL (tt : TT) (st : St) : List ResultVar → Option (List V)
  | [] => some []
  | r :: rs => match retOne tt st r with
    | some v => match retL tt st rs with
      | some vs => some (v :: vs)
      | none => none
    | none => none

def retV (tt : TT) (rs : List ResultVar) (st : St) : Option V :=
  match retL tt st rs with
  | some [v] => some v
  | some vs => some (.tup vs)
  | none => none

def expKeys (ob : Store) (n : Nat) (v : V) : List Key := reachN ob 3 (addKeys ob ((List.range n).map fun j => (0, j)) v.ments)

def expSig (n : Nat) : Key → Key := fun k => if k.2 < n then k else (1, k.2 - n)

def exportK (n : Nat) (ob : Store) (v : V) (K : V → List Obj → List Obj → Prop) : Prop :=
  match argC ob (expKeys ob n v) v, objsC ob (expKeys ob n v) (expKeys ob n v) with
  | some v', some all => K (v'.ren (expSig n)) ((all.take n).map (Obj.ren (expSig n))) ((all.drop n).map (Obj.ren (expSig n)))
  | _, _ => False

def retQ (tt : TT) (rs : List ResultVar) (n : Nat) (K : V → List Obj → List Obj → Prop) : Ex → St → Prop
  | .exit _, _ => False
  | _, st => match retV tt rs st with
    | some v => exportK n st.ob v K
    | none => False

theorem addKeys_prefix {g : Store} : ∀ {ks acc : List Key}, ∃ t, addKeys g acc ks = acc ++ t
  | [], acc => ⟨[], by simp [addKeys]⟩
  | k :: ks, acc => by
    unfold addKeys
    split
    · exact addKeys_prefix
    · obtain ⟨t, ht⟩ := addKeys_prefix (g := g) (ks := ks) (acc := acc ++ [k])
      exact ⟨k :: t, by rw [ht]; simp⟩

theorem reachN_prefix {g : Store} : ∀ {n : Nat} {acc : List Key}, ∃ t, reachN g n acc = acc ++ t
  | 0, acc => ⟨[], by simp [reachN]⟩
  | n + 1, acc => by
    simp only [reachN]
    obtain ⟨t, ht⟩ := addKeys_prefix (g := g) (ks := acc.flatMap (obMents g)) (acc := acc)
    obtain ⟨u, hu⟩ := reachN_prefix (g := g) (n := n) (acc := addKeys g acc (acc.flatMap (obMents g)))
    exact ⟨t ++ u, by rw [hu, ht]; simp⟩

theorem expKeys_prefix (ob : Store) (n : Nat) (v : V) : ∃ t, expKeys ob n v = ((List.range n).map fun j => (0, j)) ++ t := by
  unfold expKeys
  obtain ⟨t, ht⟩ := addKeys_prefix (g := ob) (ks := v.ments) (acc := (List.range n).map fun j => (0, j))
  obtain ⟨u, hu⟩ := reachN_prefix (g := ob) (n := 3) (acc := addKeys ob ((List.range n).map fun j => (0, j)) v.ments)
  exact ⟨t ++ u, by rw [hu, ht]; simp⟩

theorem expKeys_nodup (ob : Store) (n : Nat) (v : V) : (expKeys ob n v).Nodup := by
  refine reachN_nodup 3 (addKeys_nodup _ ?_)
  refine List.Pairwise.map _ (fun a b h => ?_) (List.nodup_range (n := n))
  intro e; exact h (by simpa using e)

theorem expKeys_get {ob : Store} {n : Nat} {v : V} {j : Nat} (hj : j < n) : (expKeys ob n v)[j]? = some (0, j) := by
  obtain ⟨t, ht⟩ := expKeys_prefix ob n v
  rw [ht, List.getElem?_append_left (by simpa using hj)]
  simp [hj]

section
variable {P : Program} {tt : TT} {A : Ann}

theorem ret_sound (htt : TTok P tt) {c : Ctx} {F : Cells} {pl : Places} {st : St} {a : Act} {w : World} (h : Inv c F pl st a w) {fn : Func} {v : V} (hv : retV tt fn.results.toList st = some v) :
    ∃ cv, (results fn a.tmps).run P w = .ok cv w ∧ RepV F (memOf w) pl v cv := by
  have one : ∀ r x, retOne tt st r = some x → ∃ cx, ((match r with
      | .tmp t => pure (a.tmps.getD t undef)
      | .cell b t => do loadVar t (← asAddr (a.tmps.getD b undef)) : Sem Value)).run P w = .ok cx w ∧ RepV F (memOf w) pl x cx := by
    intro r x hr
    cases r with
    | tmp t =>
      simp only [retOne, Option.some.injEq] at hr
      subst hr
      exact ⟨_, rfl, ev_rep h (.tmp t)⟩
    | cell b t =>
      simp only [retOne] at hr
      have hb : RepV F (memOf w) pl (st.tm.getD b .un) (a.tmps.getD b undef) := ev_rep h (.tmp b)
      obtain ⟨cv, h1, h2⟩ := load_sound (P := P) htt h hb hr
      refine ⟨cv, ?_, h2⟩
      have hlp : ∃ k n i off, st.tm.getD b .un = .lp k n i off := by
        unfold loadF at hr
        split at hr
        · rename_i hm; exact ⟨_, _, _, _, hm⟩
        · cases hr
      obtain ⟨k, n, i, off, hlp⟩ := hlp
      rw [hlp] at hb
      obtain ⟨p, _, _, e⟩ := hb.lp_inv
      rw [e] at h1
      show ((do loadVar t (← asAddr (a.tmps.getD b undef)) : Sem Value)).run P w = _
      rw [e]
      simpa [Instr.loadAt, Instr.sureAddr, asAddr] using h1
  have many : ∀ (rs : List ResultVar) xs, retL tt st rs = some xs → ∃ cs : List Value, (rs.mapM (fun r => (match r with
      | .tmp t => pure (a.tmps.getD t undef)
      | .cell b t => do loadVar t (← asAddr (a.tmps.getD b undef)) : Sem Value))).run P w = .ok cs w ∧ cs.length = xs.length ∧ ∀ (i : Nat) x cx, xs[i]? = some x → cs[i]? = some cx → RepV F (memOf w) pl x cx := by
    intro rs
    induction rs with
    | nil => intro xs hx; simp only [retL, Option.some.injEq] at hx; subst hx; exact ⟨[], rfl, rfl, fun i x cx hx => by simp at hx⟩
    | cons r rs ih =>
      intro xs hx
      simp only [retL] at hx
      split at hx <;> try contradiction
      rename_i y hy
      split at hx <;> try contradiction
      rename_i ys hys
      simp only [Option.some.injEq] at hx; subst hx
      obtain ⟨cy, g1, g2⟩ := one r y hy
      obtain ⟨cs, f1, f2, f3⟩ := ih ys hys
      refine ⟨cy :: cs, ?_, by simp [f2], fun i x cx hx hcx => ?_⟩
      · rw [List.mapM_cons, Sem.run_bind, g1]
        simp only [Result.andThen]
        rw [Sem.run_bind, f1]
        rfl
      · cases i with
        | zero => simp at hx hcx; subst hx hcx; exact g2
        | succ i => exact f3 i x cx (by simpa using hx) (by simpa using hcx)
  unfold retV at hv
  cases hL : retL tt st fn.results.toList with
  | none => rw [hL] at hv; cases hv
  | some xs =>
    obtain ⟨cs, f1, f2, f3⟩ := many _ xs hL
    have hrun : (results fn a.tmps).run P w = .ok (if h : cs.toArray.size = 1 then cs.toArray[0] else .tuple cs.toArray) w := by
      unfold results
      rw [Sem.run_bind, Array.mapM_eq_mapM_toList, map_eq_pure_bind, Sem.run_bind]
      erw [f1]
      rfl
    refine ⟨_, hrun, ?_⟩
    rw [hL] at hv
    rcases xs with _ | ⟨x, _ | ⟨y, r⟩⟩
    · simp only [Option.some.injEq] at hv; subst hv
      rw [dif_neg (by simp [f2])]
      exact .tup _ (by simp [f2]) (fun i x hi hx => f3 i x _ hx (by simp at hi; simp [hi]))
    · simp only [Option.some.injEq] at hv; subst hv
      have h1 : cs.length = 1 := f2
      rw [dif_pos (by simpa using h1)]
      exact f3 0 x _ rfl (by simp [h1])
    · simp only [Option.some.injEq] at hv; subst hv
      rw [dif_neg (by simp [f2])]
      exact .tup _ (by simp [f2]) (fun i x hi hx => f3 i x _ hx (by simp at hi; simp [hi]))

theorem export_sound {F0 : Cells} {pl0 : Places} {w0 : World} {objs : List Obj} {F : Cells} {pl : Places} {st : St} {a : Act} {w : World} (h : Inv ⟨w0, pl0, F0, handed pl0 objs⟩ F pl st a w)
    {v : V} {cv : Value} (hv : RepV F (memOf w) pl v cv) {K : V → List Obj → List Obj → Prop} (hK : exportK objs.length st.ob v K) : PostC F0 pl0 objs w0 K cv w := by
  unfold exportK at hK
  have hnd := expKeys_nodup st.ob objs.length v
  have hgl : ∀ j, j < objs.length → (expKeys st.ob objs.length v)[j]? = some (0, j) := fun j hj => expKeys_get hj
  generalize expKeys st.ob objs.length v = L at *
  split at hK <;> try exact hK.elim
  rename_i v' all hv' hall
  obtain ⟨hl, hg⟩ := objsC_get hall
  have hw := handOver h.wr hnd hall
  have hrep := arg_sound hv h.wr.frozAt hv'
  have hLlen : objs.length ≤ L.length := by
    rcases Nat.lt_or_ge L.length objs.length with g | g
    · have := hgl L.length g; simp at this
    · exact g
  let n := objs.length
  let pl'' : Places := fun k => if k.1 = 0 then (if k.2 < n then callPl pl L k else none) else if k.1 = 1 then callPl pl L (0, n + k.2) else none
  have hsig : ∀ k q, callPl pl L k = some q → pl'' (expSig n k) = some q := by
    intro k q hq
    have h0 : k.1 = 0 := by
      unfold callPl at hq
      split at hq
      · assumption
      · cases hq
    unfold expSig
    by_cases hk : k.2 < n
    · rw [if_pos hk]
      simp only [pl'']
      rw [if_pos h0, if_pos hk]; exact hq
    · rw [if_neg hk]
      simp only [pl'']
      rw [if_neg (by simp), if_pos trivial]
      have : (0, n + (k.2 - n)) = k := Prod.ext h0.symm (by simp; omega)
      rw [this]; exact hq
  have look : ∀ k x, resOb ((all.take n).map (Obj.ren (expSig n))) ((all.drop n).map (Obj.ren (expSig n))) k = some x →
      ∃ (i : Nat) (x0 : Obj), all[i]? = some x0 ∧ x = x0.ren (expSig n) ∧ pl'' k = callPl pl L (0, i) ∧ k = expSig n (0, i) := by
    intro k x hk
    unfold resOb at hk
    by_cases h0 : k.1 = 0
    · rw [if_pos h0] at hk
      rw [List.getElem?_map, Option.map_eq_some_iff] at hk
      obtain ⟨x0, hx0, rfl⟩ := hk
      rw [List.getElem?_take] at hx0
      split at hx0
      · rename_i hlt
        have hke : k = (0, k.2) := Prod.ext h0 rfl
        refine ⟨k.2, x0, hx0, rfl, ?_, ?_⟩
        · simp only [pl'']; rw [if_pos h0, if_pos hlt, ← hke]
        · unfold expSig; rw [if_pos (by simpa using hlt)]; exact hke
      · cases hx0
    · rw [if_neg h0] at hk
      split at hk
      · rename_i h1
        rw [List.getElem?_map, Option.map_eq_some_iff] at hk
        obtain ⟨x0, hx0, rfl⟩ := hk
        rw [List.getElem?_drop] at hx0
        refine ⟨n + k.2, x0, hx0, rfl, ?_, ?_⟩
        · simp only [pl'']; rw [if_neg h0, if_pos h1]
        · unfold expSig; rw [if_neg (by simp)]
          exact Prod.ext h1 (by simp)
      · cases hk
  have hargOb : ∀ i x0, all[i]? = some x0 → argOb all (0, i) = some x0 := fun i x0 h => by simp [argOb, h]
  refine ⟨_, _, _, F, pl'', hK, ⟨RepV.ren hrep (fun k q _ hq => hsig k q hq), ⟨fun k x hk => ?_, fun k hk => ?_, fun k1 k2 x y p q b o hne h1 h2 hx hy hp hq => ?_, hw.fex⟩, ?_, fun j hj => ?_, h.f0, fun b o hf => ?_, fun k x p b o hk hx hp ho => ?_, h.same⟩⟩
  · obtain ⟨i, x0, g1, rfl, g3, _⟩ := look k x hk
    obtain ⟨p, hp, hr⟩ := hw.rep (0, i) x0 (hargOb i x0 g1)
    exact ⟨p, by rw [g3]; exact hp, hr.ren hsig⟩
  · unfold resOb at hk
    simp only [pl'']
    by_cases h0 : k.1 = 0
    · rw [if_pos h0] at hk ⊢
      split
      · rename_i hlt
        exfalso
        rw [List.getElem?_map, Option.map_eq_none_iff, List.getElem?_take, if_pos hlt, List.getElem?_eq_none_iff] at hk
        omega
      · rfl
    · rw [if_neg h0] at hk ⊢
      split
      · rename_i h1
        rw [if_pos h1, List.getElem?_map, Option.map_eq_none_iff, List.getElem?_drop, List.getElem?_eq_none_iff] at hk
        refine hw.non _ ?_
        simp only [argOb, if_true]
        exact List.getElem?_eq_none_iff.2 hk
      · rfl
  · obtain ⟨i, x0, g1, rfl, g3, g4⟩ := look k1 x h1
    obtain ⟨j, y0, f1, rfl, f3, f4⟩ := look k2 y h2
    rw [ren_live] at hx hy
    rw [g3] at hp
    rw [f3] at hq
    refine hw.dis (0, i) (0, j) x0 y0 p q b o ?_ (hargOb i x0 g1) (hargOb j y0 f1) hx hy hp hq
    intro e
    apply hne
    rw [g4, f4, e]
  · rw [List.length_map, List.length_take]
    omega
  · have hLj := hgl j hj
    simp only [pl'']
    rw [if_pos trivial, if_pos hj]
    have e1 : callPl pl L (0, j) = pl (0, j) := by simp [callPl, hLj]
    rw [e1]
    have hjl : j < all.length := by rw [hl]; exact (List.getElem?_eq_some_iff.1 hLj).1
    obtain ⟨l, y, g1, g2, g3⟩ := hg j _ (List.getElem?_eq_getElem hjl)
    rw [hLj] at g1; cases g1
    obtain ⟨p, hp, _⟩ := h.wr.rep (0, j) y g2
    rw [hp]
    exact (h.arg (0, j) p rfl hp).symm
  · rcases h.ff b o hf with g | g | g
    · exact .inl g
    · exact .inr (.inl g)
    · exact .inr (.inr g)
  · obtain ⟨i, x0, g1, rfl, g3, _⟩ := look k x hk
    rw [ren_live] at hx
    rw [g3] at hp
    obtain ⟨l, y, e1, e2, e3⟩ := hg i x0 g1
    have hyl : y.live = true := by
      cases y with
      | dead => simp [objC] at e3; subst e3; cases hx
      | froz n es => simp [objC] at e3
      | arr kf n es => rfl
    exact h.own l y p b o e2 hyl (by simpa [callPl, e1] using hp) ho

/-- A function does what the machine says of its code. -/
theorem ac_of_body (hm : P.follows .mixedOrders = true) (htt : TTok P tt) {f : FuncId} {fn : Func} {code : Code} (hf : P.funcs[f]? = some fn) (hb : fn.body = some code) (hname : (fn.name == "runtime.NumGoroutine") = false)
    {args : List V} {objs : List Obj} {K : V → List Obj → List Obj → Prop}
    (h : cw P tt A code ⟨args ++ List.replicate (fn.ntmps - args.length) .un, argOb objs⟩ (retQ tt fn.results.toList objs.length K)) : AC P f args objs K := by
  intro F pl w cargs hwr hsz hargs
  have hrun : (callFunc f cargs).run P w = .ok (.enter f cargs) w := by
    have hname' : ¬ fn.name = "runtime.NumGoroutine" := by simpa using hname
    simp [callFunc, hf, hname', hb]
  rw [hrun]
  refine calls_of_wp hf hb ?_
  let c : Ctx := ⟨w, pl, F, handed pl objs⟩
  have hI : Inv c F pl ⟨args ++ List.replicate (fn.ntmps - args.length) .un, argOb objs⟩ { tmps := cargs ++ Array.replicate (fn.ntmps - cargs.size) undef, defers := [] } w := by
    refine ⟨rfl, fun i v hi => ?_, hwr, fun _ _ h => h, fun _ _ h => .inl h, fun k x p b o hk hx hp ho => ?_, Same.refl _ _, fun k p _ hp => hp⟩
    · simp only at hi
      by_cases hlt : i < args.length
      · rw [List.getElem?_append_left hlt] at hi
        refine ⟨by simp; omega, ?_⟩
        rw [Array.getElem_append_left (by omega)]
        exact hargs i v (by omega) hi
      · rw [List.getElem?_append_right (by omega)] at hi
        have h1 := (List.getElem?_eq_some_iff.1 hi).1
        rw [List.getElem?_replicate] at hi
        split at hi
        · cases hi
          simp only [List.length_replicate] at h1
          exact ⟨by simp; omega, .un⟩
        · cases hi
    · simp only [argOb] at hk
      split at hk
      · rename_i h0
        refine .inl ⟨k.2, x, p, hk, hx, ?_, ho⟩
        rw [show (0, k.2) = k from Prod.ext h0.symm rfl]; exact hp
      · cases hk
  refine wp_mono (cw_sound (c := c) hm htt code _ _ _ w h ⟨F, pl, hI⟩) fun e a w' he => ?_
  have fin : ∀ st, (match retV tt fn.results.toList st with | some v => exportK objs.length st.ob v K | none => False) → InvE c st a w' →
      a.defers = [] ∧ ∃ v, (results fn a.tmps).run P w' = .ok v w' ∧ (∃ v', (Ending.returned v) = .returned v' ∧ PostC F pl objs w K v' w') := by
    rintro st hq ⟨F', pl', hI'⟩
    split at hq
    · rename_i v hv
      obtain ⟨cv, h1, h2⟩ := ret_sound htt hI' hv
      exact ⟨hI'.defers, cv, h1, cv, rfl, export_sound hI' h2 hq⟩
    · exact hq.elim
  cases e with
  | normal => obtain ⟨st, h1, h2⟩ := he; exact fin st h1 h2
  | ret => obtain ⟨st, h1, h2⟩ := he; exact fin st h1 h2
  | exit id => obtain ⟨st, h1, _⟩ := he; exact h1.elim
  | goto l => exact he.elim
  | panic ch => exact he.elim
  | outgrown => exact he.elim
end
end Go.Eng
