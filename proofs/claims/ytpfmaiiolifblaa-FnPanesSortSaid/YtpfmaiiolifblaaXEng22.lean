/- A machine of values for the program's code, part 22: code, loops. -/
import Derived.Scope
import Derived.Test.YtpfmaiiolifblaaXEng21
namespace Go.Eng
open Go.RowKit

def mkOb : List (Key × Option Obj) → Store
  | [], _ => none
  | (k, x) :: r, l => if l = k then x else mkOb r l

/-- What is kept at the head of a loop: some slots, some objects. -/
def keepSt (L : List Nat) (KL : List Key) (st : St) : St :=
  { tm := st.tm.zipIdx.map fun x => if L.contains x.2 then x.1 else .un, ob := mkOb (KL.map fun k => (k, st.ob k)) }

def keepOk (KL : List Key) (st : St) : Bool :=
  st.tm.all (fun v => v.ments.all (KL.contains ·)) && KL.all fun k => match st.ob k with
    | some x => x.ments.all (KL.contains ·)
    | none => true

theorem mkOb_map {f : Key → Option Obj} : ∀ {KL : List Key} {k : Key}, mkOb (KL.map fun k => (k, f k)) k = if k ∈ KL then f k else none
  | [], k => by simp [mkOb]
  | l :: ls, k => by
    simp only [List.map_cons, mkOb]
    by_cases h : k = l
    · subst h; simp
    · rw [if_neg h, mkOb_map]; simp [h]

theorem keep_sound {c : Ctx} {L : List Nat} {KL : List Key} {st : St} {a : Act} {w : World} (h : InvE c st a w) (hk : keepOk KL (keepSt L KL st) = true) : InvE c (keepSt L KL st) a w := by
  obtain ⟨F, pl, h⟩ := h
  simp only [keepOk, Bool.and_eq_true, List.all_eq_true] at hk
  obtain ⟨hk1, hk2⟩ := hk
  have hob : ∀ k, (keepSt L KL st).ob k = if k ∈ KL then st.ob k else none := fun k => mkOb_map
  let pl' : Places := fun k => if k ∈ KL then pl k else none
  have hpl : ∀ {ks : List Key}, (∀ k ∈ ks, KL.contains k = true) → ∀ k p, k ∈ ks → pl k = some p → pl' k = some p := by
    intro ks hks k p hk hp
    simp only [pl']
    rw [if_pos (by simpa using hks k hk)]; exact hp
  have hsub : ∀ k p, pl' k = some p → k ∈ KL ∧ pl k = some p := by
    intro k p hp
    simp only [pl'] at hp
    split at hp
    · exact ⟨by assumption, hp⟩
    · cases hp
  have hobs : ∀ k x, (keepSt L KL st).ob k = some x → k ∈ KL ∧ st.ob k = some x := by
    intro k x hx
    rw [hob] at hx
    split at hx
    · exact ⟨by assumption, hx⟩
    · cases hx
  refine ⟨F, pl', h.defers, fun i v hi => ?_, ⟨fun k x hx => ?_, fun k hx => ?_, fun k l x y p q b o hne hx hy lx ly hp hq => ?_, h.wr.fex⟩, h.f0, h.ff, fun k x p b o hx lx hp => ?_, h.same, fun k p h0 hp => h.arg k p h0 (hsub k p hp).2⟩
  · have hv := hk1 v (List.mem_of_getElem? hi)
    simp only [keepSt, List.getElem?_map, Option.map_eq_some_iff] at hi
    obtain ⟨⟨u, j⟩, hj, rfl⟩ := hi
    rw [List.getElem?_zipIdx] at hj
    obtain ⟨u', hu, e⟩ := Option.map_eq_some_iff.1 hj
    simp only [Prod.mk.injEq] at e
    obtain ⟨rfl, rfl⟩ := e
    obtain ⟨h1, h2⟩ := h.tm i u' hu
    refine ⟨h1, ?_⟩
    simp only [Nat.zero_add] at hv ⊢
    split
    · rename_i hc
      rw [if_pos hc] at hv
      exact h2.places (fun k p hk' hp => hpl (ks := u'.ments) hv k p hk' hp)
    · exact .un
  · obtain ⟨hkl, hx'⟩ := hobs k x hx
    obtain ⟨p, hp, hr⟩ := h.wr.rep k x hx'
    refine ⟨p, by simp only [pl']; rw [if_pos hkl]; exact hp, ?_⟩
    have hm := hk2 k hkl
    rw [hx] at hm
    simp only [List.all_eq_true] at hm
    cases x with
    | dead => trivial
    | froz n es => exact hr
    | arr kf n es =>
      cases kf with
      | true => exact hr
      | false =>
        obtain ⟨r1, r2, r3, r4, r5⟩ := hr
        refine ⟨r1, r2, r3, r4, fun j e he => ?_⟩
        obtain ⟨s1, s2⟩ := r5 j e he
        refine ⟨s1, fun c x hx => ?_⟩
        obtain ⟨t1, cv, t2, t3⟩ := s2 c x hx
        refine ⟨t1, cv, t2, ?_⟩
        simp only [Obj.plc] at t3 ⊢
        refine RepV.places (by simpa using t3) (fun k p hk' hp => ?_)
        refine hpl (ks := mentsL es) hm k p ?_ hp
        refine ments_mem (List.mem_of_getElem? he) k ?_
        cases e <;> simp only [V.cells] at hx
        case agg cs => simp only [V.ments]; exact ments_mem (List.mem_of_getElem? hx) k hk'
        all_goals
          have hc : c = 0 := by
            have := (List.getElem?_eq_some_iff.1 hx).1
            simp at this; exact this
          subst hc
          simp only [List.getElem?_cons_zero, Option.some.injEq] at hx; subst hx
          exact hk'
  · rw [hob] at hx
    simp only [pl']
    split
    · rename_i hkl
      rw [if_pos hkl] at hx
      exact h.wr.non k hx
    · rfl
  · exact h.wr.dis k l x y p q b o hne (hobs k x hx).2 (hobs l y hy).2 lx ly (hsub k p hp).2 (hsub l q hq).2
  · exact h.own k x p b o (hobs k x hx).2 lx (hsub k p hp).2

/-- Two keys change their parts. -/
def swK (a b k : Key) : Key := if k = a then b else if k = b then a else k

def swSt (a b : Key) (st : St) : St :=
  if a.1 ≠ 0 ∧ b.1 ≠ 0 then ⟨st.tm.map (V.ren (swK a b)), fun k => (st.ob (swK a b k)).map (Obj.ren (swK a b))⟩ else st

def swSts : List (Key × Key) → St → St
  | [], st => st
  | (a, b) :: r, st => swSts r (swSt a b st)

theorem swK_swK (a b k : Key) : swK a b (swK a b k) = k := by
  unfold swK
  by_cases h1 : k = a
  · subst h1
    rw [if_pos rfl]
    by_cases h2 : b = k
    · rw [if_pos h2, h2]
    · rw [if_neg h2, if_pos rfl]
  · rw [if_neg h1]
    by_cases h2 : k = b
    · rw [if_pos h2, if_pos rfl, h2]
    · rw [if_neg h2, if_neg h1, if_neg h2]

theorem swSt_sound {c : Ctx} {x y : Key} {st : St} {a : Act} {w : World} (h : InvE c st a w) : InvE c (swSt x y st) a w := by
  unfold swSt
  split
  case isFalse => exact h
  rename_i h0
  obtain ⟨F, pl, h⟩ := h
  have hz : ∀ k : Key, k.1 = 0 → swK x y k = k := by
    intro k hk
    unfold swK
    rw [if_neg (by rintro rfl; exact h0.1 hk), if_neg (by rintro rfl; exact h0.2 hk)]
  have hpl : ∀ k p, pl k = some p → (fun k => pl (swK x y k)) (swK x y k) = some p := fun k p hp => by simp only [swK_swK]; exact hp
  refine ⟨F, fun k => pl (swK x y k), h.defers, fun i v hi => ?_, ⟨fun k o hk => ?_, fun k hk => ?_, fun k l u v p q b o hne hu hv lu lv hp hq => ?_, h.wr.fex⟩, h.f0, h.ff, fun k u p b o hu lu hp => ?_, h.same, fun k p hk hp => ?_⟩
  · rw [List.getElem?_map] at hi
    obtain ⟨u, hu, rfl⟩ := Option.map_eq_some_iff.1 hi
    obtain ⟨h1, h2⟩ := h.tm i u hu
    exact ⟨h1, h2.ren fun k p _ hp => hpl k p hp⟩
  · obtain ⟨u, hu, rfl⟩ := Option.map_eq_some_iff.1 hk
    obtain ⟨p, hp, hr⟩ := h.wr.rep _ u hu
    exact ⟨p, hp, hr.ren hpl⟩
  · exact h.wr.non _ (by simpa using hk)
  · obtain ⟨u', hu', rfl⟩ := Option.map_eq_some_iff.1 hu
    obtain ⟨v', hv', rfl⟩ := Option.map_eq_some_iff.1 hv
    rw [ren_live] at lu lv
    refine h.wr.dis _ _ u' v' p q b o (fun e => hne ?_) hu' hv' lu lv hp hq
    rw [← swK_swK x y k, e, swK_swK]
  · obtain ⟨u', hu', rfl⟩ := Option.map_eq_some_iff.1 hu
    rw [ren_live] at lu
    exact h.own _ u' p b o hu' lu hp
  · simp only [hz k hk] at hp
    exact h.arg k p hk hp

theorem swSts_sound {c : Ctx} {a : Act} {w : World} : ∀ {l : List (Key × Key)} {st : St}, InvE c st a w → InvE c (swSts l st) a w
  | [], _, h => h
  | (x, y) :: r, _, h => swSts_sound (l := r) (swSt_sound h)

def headSt (sw : Store → List (Key × Key)) (L : List Nat) (KL : List Key) (st : St) : St := keepSt L KL (swSts (sw st.ob) st)

theorem head_sound {c : Ctx} {sw : Store → List (Key × Key)} {L : List Nat} {KL : List Key} {st : St} {a : Act} {w : World} (h : InvE c st a w) (hk : keepOk KL (headSt sw L KL st) = true) : InvE c (headSt sw L KL st) a w :=
  keep_sound (swSts_sound h) hk

inductive Ex where
  | normal
  | exit (id : Nat)
  | ret

def firstReg : Code → Nat
  | .region id _ _ => id
  | .seq a _ => firstReg a
  | .block _ a => firstReg a
  | .loop a => firstReg a
  | .scope a => firstReg a
  | _ => 0

def vif (v : V) (a b : Prop) : Prop :=
  match v with
  | .lit (.bool t) => if t = true then a else b
  | _ => False

/-- Rounds of a loop: at most n. -/
def rounds (B : St → (Ex → St → Prop) → Prop) (sw : Store → List (Key × Key)) (L : List Nat) (KL : List Key) (Q : Ex → St → Prop) : Nat → St → Prop
  | 0, _ => False
  | n + 1, st => B st fun e s => match e with
    | .normal => keepOk KL (headSt sw L KL s) = true ∧ rounds B sw L KL Q n (headSt sw L KL s)
    | e => Q e s

def cw (P : Program) (tt : TT) (A : Ann) : Code → St → (Ex → St → Prop) → Prop
  | .skip, st, Q => Q .normal st
  | .label _, st, Q => Q .normal st
  | .region _ ops false, st, Q => seqOps P tt A ops (List.range ops.size) st (Q .normal)
  | .region _ ops true, st, Q => planOk ops (ancTbl ops) (planOf ops) = true ∧ planOps P tt A ops (ancTbl ops) (planOf ops) [] st (Q .normal)
  | .seq a b, st, Q => cw P tt A a st fun e s => match e with
    | .normal => cw P tt A b s Q
    | e => Q e s
  | .cond x a b, st, Q => vif (ev st.tm x) (cw P tt A a st Q) (cw P tt A b st Q)
  | .block id b, st, Q => cw P tt A b st fun e s => match e with
    | .exit j => if j = id then Q .normal s else Q (.exit j) s
    | e => Q e s
  | .loop b, st, Q => keepOk (A.keep (firstReg b)).2 (headSt (A.sw (firstReg b)) (A.keep (firstReg b)).1 (A.keep (firstReg b)).2 st) = true ∧
      ∃ n, rounds (cw P tt A b) (A.sw (firstReg b)) (A.keep (firstReg b)).1 (A.keep (firstReg b)).2 Q n (headSt (A.sw (firstReg b)) (A.keep (firstReg b)).1 (A.keep (firstReg b)).2 st)
  | .scope b, st, Q => cw P tt A b st Q
  | .exit id, st, Q => Q (.exit id) st
  | .ret, st, Q => Q .ret st
  | _, _, _ => False

section
variable {P : Program} {tt : TT} {A : Ann} {c : Ctx}

/-- What an end of a piece of code is for the model. -/
def lift (c : Ctx) (Q : Ex → St → Prop) : Exit → Act → World → Prop
  | .normal, a, w => ∃ st, Q .normal st ∧ InvE c st a w
  | .exit id, a, w => ∃ st, Q (.exit id) st ∧ InvE c st a w
  | .ret, a, w => ∃ st, Q .ret st ∧ InvE c st a w
  | _, _, _ => False

theorem lift_mono {Q Q' : Ex → St → Prop} (h : ∀ e s, Q e s → Q' e s) : ∀ e a w, lift c Q e a w → lift c Q' e a w
  | .normal, _, _, ⟨s, h1, h2⟩ => ⟨s, h _ _ h1, h2⟩
  | .exit _, _, _, ⟨s, h1, h2⟩ => ⟨s, h _ _ h1, h2⟩
  | .ret, _, _, ⟨s, h1, h2⟩ => ⟨s, h _ _ h1, h2⟩
  | .goto _, _, _, h => h.elim
  | .panic _, _, _, h => h.elim
  | .outgrown, _, _, h => h.elim

theorem cw_sound (hm : P.follows .mixedOrders = true) (htt : TTok P tt) : ∀ (code : Code) (st : St) (Q : Ex → St → Prop) (a : Act) (w : World), cw P tt A code st Q → InvE c st a w → code.wp P (lift c Q) a w := by
  intro code
  induction code with
  | skip => intro st Q a w h hI; exact wp_skip ⟨st, by simpa only [cw] using h, hI⟩
  | label l => intro st Q a w h hI; exact wp_label ⟨st, by simpa only [cw] using h, hI⟩
  | region id ops draw =>
    intro st Q a w h hI
    cases draw with
    | false =>
      simp only [cw] at h
      exact wp_region (seq_sound (c := c) htt (fun st' hk a w hI => ⟨st', hk, hI⟩) _ st a w h hI)
    | true =>
      simp only [cw] at h
      exact region_draw (c := c) hm htt h.1 hI (fun st' hk a w hI => ⟨st', hk, hI⟩) h.2
  | seq x y ihx ihy =>
    intro st Q a w h hI
    simp only [cw] at h
    refine wp_seq (wp_mono (ihx st _ a w h hI) fun e a w he => ?_)
    cases e with
    | normal => obtain ⟨s, h1, h2⟩ := he; exact ihy s Q a w h1 h2
    | exit id => exact he
    | ret => exact he
    | goto l => exact he.elim
    | panic ch => exact he.elim
    | outgrown => exact he.elim
  | cond x p q ihp ihq =>
    intro st Q a w h hI
    simp only [cw] at h
    unfold vif at h
    split at h
    · rename_i t hv
      obtain ⟨F, pl, hI'⟩ := hI
      have := ev_rep hI' x
      rw [hv] at this
      refine wp_cond this.lit_inv ?_
      split at h
      · rename_i ht
        rw [ht]; exact ihp st Q a w h ⟨F, pl, hI'⟩
      · rename_i ht
        have : t = false := by simpa using ht
        rw [this]; exact ihq st Q a w h ⟨F, pl, hI'⟩
    · exact h.elim
  | block id b ih =>
    intro st Q a w h hI
    simp only [cw] at h
    refine wp_block (wp_mono (ih st _ a w h hI) fun e a w he => ?_)
    cases e with
    | normal => exact he
    | exit j =>
      obtain ⟨s, h1, h2⟩ := he
      simp only [Exit.inBlock]
      split
      · rename_i hj
        simp only [hj, if_true] at h1
        exact ⟨s, h1, h2⟩
      · rename_i hj
        simp only [hj, if_false] at h1
        exact ⟨s, h1, h2⟩
    | ret => exact he
    | goto l => exact he.elim
    | panic ch => exact he.elim
    | outgrown => exact he.elim
  | loop b ih =>
    intro st Q a w h hI
    simp only [cw] at h
    obtain ⟨hk, n, hn⟩ := h
    have hI0 := head_sound hI hk
    generalize (A.sw (firstReg b)) = sw at *
    generalize (A.keep (firstReg b)).1 = L at *
    generalize (A.keep (firstReg b)).2 = KL at *
    generalize headSt sw L KL st = st0 at *
    intro fb k cs
    have key : ∀ n st a w, rounds (cw P tt A b) sw L KL Q n st → InvE c st a w →
        ∃ e a' w', lift c Q e a' w' ∧ Arrives P (lone (fb.at a (.code b :: .inLoop b :: k)) cs w) fb k cs e a' w' := by
      intro n
      induction n with
      | zero => intro st a w h _; exact h.elim
      | succ n ihn =>
        intro st a w h hI
        simp only [rounds] at h
        obtain ⟨e, a1, w1, hq, harr⟩ := ih st _ a w h hI fb (.inLoop b :: k) cs
        cases e with
        | normal =>
          obtain ⟨s, ⟨h1, h2⟩, h3⟩ := hq
          obtain ⟨e2, a2, w2, hq2, harr2⟩ := ihn _ a1 w1 h2 (head_sound h3 h1)
          exact ⟨e2, a2, w2, hq2, .of_steps (Steps.trans harr (.one step_inLoop)) harr2⟩
        | exit id => exact ⟨.exit id, a1, w1, hq, .pass (x := .inLoop b) rfl (fun _ _ => .inl (by simp)) harr⟩
        | ret => exact ⟨.ret, a1, w1, hq, .pass (x := .inLoop b) rfl (fun _ _ => .inl (by simp)) harr⟩
        | goto l => exact hq.elim
        | panic ch => exact hq.elim
        | outgrown => exact hq.elim
    obtain ⟨e, a', w', hq, harr⟩ := key n st0 a w hn hI0
    exact ⟨e, a', w', hq, .of_steps (.one step_loop) harr⟩
  | rangeFunc f ps x y ihx ihy => intro st Q a w h hI; simp only [cw] at h
  | exit id => intro st Q a w h hI; exact wp_exit ⟨st, by simpa only [cw] using h, hI⟩
  | scope b ih =>
    intro st Q a w h hI
    simp only [cw] at h
    refine wp_scope_straight (wp_mono (ih st Q a w h hI) fun e a w he => ?_)
    cases e <;> first | exact he | exact he.elim
  | goto l => intro st Q a w h hI; simp only [cw] at h
  | ret => intro st Q a w h hI; exact wp_ret ⟨st, by simpa only [cw] using h, hI⟩
  | refuse s => intro st Q a w h hI; simp only [cw] at h
end
end Go.Eng
