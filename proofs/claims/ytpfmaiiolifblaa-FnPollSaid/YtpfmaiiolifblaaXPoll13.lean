import Derived.Test.YtpfmaiiolifblaaXPoll12
/- A machine of values for the program's code, part 14: what stands behind a call. -/
namespace Go.Eng
open Go.RowKit

def backKey (L : List Key) (kb : Nat) : Key → Key := fun k => if k.1 = 0 then L.getD k.2 (0, 0) else (kb, k.2)

def backOb (ob : Store) (L : List Key) (kb : Nat) (objs news : List Obj) : Store := fun k =>
  if k ∈ L then (objs[idxOf k L]?).map (Obj.ren (backKey L kb))
  else if k.1 = kb ∧ k.2 < news.length then (news[k.2]?).map (Obj.ren (backKey L kb))
  else ob k

def freshKb (ob : Store) (kb : Nat) (n : Nat) : Prop := ∀ j, j < n → ob (kb, j) = none

theorem ren_cells {s : Key → Key} (e : V) : (e.ren s).cells = renL s e.cells := by
  cases e <;> rfl

theorem ren_scal {s : Key → Key} {x : V} : scal (x.ren s) = scal x := by
  cases x <;> rfl

theorem ren_live {s : Key → Key} (x : Obj) : (x.ren s).live = x.live := by
  cases x with
  | dead => rfl
  | froz n es => rfl
  | arr kf n es => cases kf <;> rfl

theorem RepO.ren {F : Cells} {m : Mem} {fz : Cells} {pl pl' : Places} {s : Key → Key} {p : Pl} {x : Obj} (h : RepO F m fz pl p x) (hs : ∀ k q, pl k = some q → pl' (s k) = some q) : RepO F m fz pl' p (x.ren s) := by
  cases x with
  | dead => trivial
  | froz n es => exact h
  | arr kf n es =>
    cases kf with
    | true => exact h
    | false =>
      obtain ⟨r1, r2, r3, r4, r5⟩ := h
      refine ⟨r1, r2, by rw [renL_length]; exact r3, r4, fun j e he => ?_⟩
      rw [renL_get] at he
      obtain ⟨z, hz, rfl⟩ := Option.map_eq_some_iff.1 he
      obtain ⟨s1, s2⟩ := r5 j z hz
      refine ⟨by rw [ren_cells, renL_length]; exact s1, fun c x hx => ?_⟩
      rw [ren_cells, renL_get] at hx
      obtain ⟨x0, hx0, rfl⟩ := Option.map_eq_some_iff.1 hx
      obtain ⟨t1, cv, t2, t3⟩ := s2 c x0 hx0
      exact ⟨by rw [ren_scal]; exact t1, cv, t2, RepV.ren (pl' := pl') (by simpa [Obj.plc] using t3) (fun k q _ hq => hs k q hq)⟩

theorem back_sound {c : Ctx} {F : Cells} {pl : Places} {st : St} {a : Act} {w : World} (h : Inv c F pl st a w) {L : List Key} (hn : L.Nodup) {objs : List Obj} (ho : objsC st.ob L L = some objs) {kb : Nat} (hk0 : kb ≠ 0)
    {F' : Cells} {pl' : Places} {objs' news : List Obj} {w' : World} {v : V} {cv : Value} (hb : Back F (callPl pl L) objs w F' pl' objs' news w' v cv) (hf : freshKb st.ob kb news.length) :
    ∃ pl'', Inv c F' pl'' { st with ob := backOb st.ob L kb objs' news } a w' ∧ RepV F' (memOf w') pl'' (v.ren (backKey L kb)) cv := by
  obtain ⟨hl, hg⟩ := objsC_get ho
  have hw := handOver h.wr hn ho
  let pl'' : Places := fun k => if k.1 = kb ∧ k.2 < news.length then pl' (1, k.2) else pl k
  have hLne : ∀ k ∈ L, ¬ (k.1 = kb ∧ k.2 < news.length) := by
    rintro k hk ⟨rfl, h2⟩
    obtain ⟨j, hj⟩ := List.mem_iff_getElem?.1 hk
    have : j < objs.length := by rw [hl]; exact (List.getElem?_eq_some_iff.1 hj).1
    obtain ⟨l, y, g1, g2, _⟩ := hg j _ (List.getElem?_eq_getElem this)
    rw [hj] at g1; cases g1
    have := hf k.2 h2
    rw [show (k.1, k.2) = k from rfl, g2] at this
    cases this
  have hplL : ∀ j k, L[j]? = some k → pl' (0, j) = pl k ∧ j < objs.length := by
    intro j k hj
    have hlt : j < objs.length := by rw [hl]; exact (List.getElem?_eq_some_iff.1 hj).1
    exact ⟨by rw [hb.plk j hlt]; simp [callPl, hj], hlt⟩
  have hren : ∀ k q, pl' k = some q → pl'' (backKey L kb k) = some q := by
    intro k q hq
    have hne : resOb objs' news k ≠ none := fun h0 => by rw [hb.wr.non k h0] at hq; cases hq
    unfold resOb at hne
    by_cases h0 : k.1 = 0
    · rw [if_pos h0] at hne
      have hlt : k.2 < objs'.length := by
        rcases Nat.lt_or_ge k.2 objs'.length with g | g
        · exact g
        · exact absurd (List.getElem?_eq_none g) hne
      rw [hb.len, hl] at hlt
      have hj := List.getElem?_eq_getElem hlt
      obtain ⟨e1, _⟩ := hplL _ _ hj
      have : k = (0, k.2) := by rw [← h0]
      rw [this, e1] at hq
      simp only [pl'', backKey, if_pos h0, List.getD, hj, Option.getD_some]
      rw [if_neg (hLne _ (List.mem_of_getElem? hj))]
      exact hq
    · rw [if_neg h0] at hne
      split at hne
      · rename_i h1
        have hlt : k.2 < news.length := by
          rcases Nat.lt_or_ge k.2 news.length with g | g
          · exact g
          · exact absurd (List.getElem?_eq_none g) hne
        simp only [pl'', backKey, if_neg h0]
        rw [if_pos ⟨trivial, hlt⟩, ← h1]
        exact hq
      · exact absurd rfl hne
  have hpl : ∀ k p, pl k = some p → pl'' k = some p := by
    intro k p hp
    simp only [pl'']
    rw [if_neg ?_]
    · exact hp
    · rintro ⟨rfl, h2⟩
      have := h.wr.non _ (hf k.2 h2)
      rw [show (k.1, k.2) = k from rfl, hp] at this
      cases this
  -- what the call was handed
  have hZ : ∀ b o, handed (callPl pl L) objs b o → ∃ l y p, l ∈ L ∧ st.ob l = some y ∧ y.live = true ∧ pl l = some p ∧ p.has b o := by
    rintro b o ⟨j, x, p, h1, h2, h3, h4⟩
    obtain ⟨l, y, g1, g2, g3⟩ := hg j x h1
    refine ⟨l, y, p, List.mem_of_getElem? g1, g2, ?_, by simpa [callPl, g1] using h3, h4⟩
    cases y with
    | dead => simp [objC] at g3; subst g3; cases h2
    | froz n es => simp [objC] at g3
    | arr kf n es => rfl
  have hZF : ∀ b o, F b o → ¬ handed (callPl pl L) objs b o := by
    intro b o hfb hz
    obtain ⟨l, y, p, _, g2, g3, g4, g5⟩ := hZ b o hz
    exact (live_lt h.wr g2 g3 g4 g5).2.2 hfb
  have hZm : ∀ b o, handed (callPl pl L) objs b o → c.mine b o := by
    intro b o hz
    obtain ⟨l, y, p, _, g2, g3, g4, g5⟩ := hZ b o hz
    exact h.own l y p b o g2 g3 g4 g5
  have hnew : ∀ b : Nat, w.heap.size ≤ b → ∀ o, c.mine b o := fun b hb _ => .inr (Nat.le_trans h.same.size hb)
  -- what each object is now
  have look : ∀ k x, backOb st.ob L kb objs' news k = some x →
      (∃ q x0, resOb objs' news q = some x0 ∧ x = x0.ren (backKey L kb) ∧ pl'' k = pl' q ∧ (k ∈ L ∨ (k.1 = kb ∧ k.2 < news.length)) ∧ ((q.1 = 0 ∧ L[q.2]? = some k) ∨ (q.1 = 1 ∧ k = (kb, q.2)))) ∨
      (k ∉ L ∧ ¬ (k.1 = kb ∧ k.2 < news.length) ∧ st.ob k = some x ∧ pl'' k = pl k) := by
    intro k x hk
    unfold backOb at hk
    split at hk
    · rename_i hkL
      obtain ⟨x0, hx0, rfl⟩ := Option.map_eq_some_iff.1 hk
      refine .inl ⟨(0, idxOf k L), x0, by simp [resOb, hx0], rfl, ?_, .inl hkL, .inl ⟨rfl, idxOf_get hkL⟩⟩
      simp only [pl'']
      rw [if_neg (hLne k hkL), (hplL _ _ (idxOf_get hkL)).1]
    · rename_i hkL
      split at hk
      · rename_i hkb
        obtain ⟨x0, hx0, rfl⟩ := Option.map_eq_some_iff.1 hk
        refine .inl ⟨(1, k.2), x0, by simp [resOb, hx0], rfl, ?_, .inr hkb, .inr ⟨rfl, by rw [← hkb.1]⟩⟩
        simp only [pl'']
        rw [if_pos hkb]
      · rename_i hkb
        refine .inr ⟨hkL, hkb, hk, ?_⟩
        simp only [pl'']
        rw [if_neg hkb]
  have hFm : ∀ b o, F' b o → F b o ∨ c.mine b o := by
    intro b o hfb
    rcases hb.fX b o hfb with g | g | g
    · exact .inl g
    · exact .inr (hZm b o g)
    · exact .inr (hnew b g o)
  refine ⟨pl'', ?_, RepV.ren hb.rep (fun k q _ hq => hren k q hq)⟩
  refine h.turn hb.same hZF (fun b o hz _ => hZm b o hz) hb.fF hFm hpl ?_ ?_ (fun k p h0 hp => by
    simp only [pl''] at hp
    rw [if_neg (fun e => hk0 (by rw [← e.1, h0]))] at hp; exact hp)
  · refine h.wr.turn hb.same hZF hb.fF (fun b o hfb => .inr (hb.wr.fex b o hfb)) hpl (fun k x hk => ?_) (fun k hk => ?_) ?_
    · rcases look k x hk with ⟨q, x0, g1, rfl, g3, _, _⟩ | ⟨g1, g2, g3, g4⟩
      · obtain ⟨p, hp, hr⟩ := hb.wr.rep q x0 g1
        exact .inr ⟨p, by rw [g3]; exact hp, hr.ren hren⟩
      · refine .inl ⟨g3, fun hx p o hp ho => ⟨fun hz => ?_, fun hfb => ?_⟩⟩
        · obtain ⟨l, y, q, a1, a2, a3, a4, a5⟩ := hZ _ _ hz
          exact h.wr.dis k l x y p q _ o (fun e => g1 (e ▸ a1)) g3 a2 hx a3 hp a4 ho a5
        · have hlt := live_lt h.wr g3 hx hp ho
          rcases hb.fX _ _ hfb with t | t | t
          · exact hlt.2.2 t
          · obtain ⟨l, y, q, a1, a2, a3, a4, a5⟩ := hZ _ _ t
            exact h.wr.dis k l x y p q _ o (fun e => g1 (e ▸ a1)) g3 a2 hx a3 hp a4 ho a5
          · have := memOf_lt hlt.1; omega
    · unfold backOb at hk
      split at hk
      · rename_i hkL
        have hj := idxOf_get hkL
        have hlt := (hplL _ _ hj).2
        simp only [Option.map_eq_none_iff, List.getElem?_eq_none_iff] at hk
        have := hb.len; omega
      · split at hk
        · rename_i hkb
          simp only [Option.map_eq_none_iff, List.getElem?_eq_none_iff] at hk
          omega
        · rename_i hkb
          simp only [pl'']
          rw [if_neg hkb]
          exact h.wr.non k hk
    · intro k1 k2 x y p q b o hne h1 h2 hx hy hp hq hpo hqo
      have cross : ∀ k x p, k ∉ L → st.ob k = some x → x.live = true → pl k = some p → p.has b o → (handed (callPl pl L) objs b o ∨ w.heap.size ≤ b) → False := by
        intro k x p g1 g3 hx hp ho hh
        rcases hh with t | t
        · obtain ⟨l, y, q, a1, a2, a3, a4, a5⟩ := hZ _ _ t
          exact h.wr.dis k l x y p q _ o (fun e => g1 (e ▸ a1)) g3 a2 hx a3 hp a4 ho a5
        · have := memOf_lt (live_lt h.wr g3 hx hp ho).1; omega
      rcases look k1 x h1 with ⟨q1, x1, g1, rfl, g3, g4, g5⟩ | ⟨g1, g2, g3, g4⟩
      · rw [ren_live] at hx
        rw [g3] at hp
        rcases look k2 y h2 with ⟨q2, y2, f1, rfl, f3, f4, f5⟩ | ⟨f1, f2, f3, f4⟩
        · rw [ren_live] at hy
          rw [f3] at hq
          refine hb.wr.dis q1 q2 x1 y2 p q b o ?_ g1 f1 hx hy hp hq hpo hqo
          rintro rfl
          apply hne
          rcases g5 with ⟨a1, a2⟩ | ⟨a1, a2⟩ <;> rcases f5 with ⟨b1, b2⟩ | ⟨b1, b2⟩
          · rw [a2] at b2; exact Option.some.inj b2
          · omega
          · omega
          · rw [a2, b2]
        · rw [f4] at hq
          exact cross k2 y q f1 f3 hy hq hqo (hb.own q1 x1 p b o g1 hx hp hpo)
      · rw [g4] at hp
        rcases look k2 y h2 with ⟨q2, y2, f1, rfl, f3, f4, f5⟩ | ⟨f1, f2, f3, f4⟩
        · rw [ren_live] at hy
          rw [f3] at hq
          exact cross k1 x p g1 g3 hx hp hpo (hb.own q2 y2 q b o f1 hy hq hqo)
        · rw [f4] at hq
          exact h.wr.dis k1 k2 x y p q b o hne g3 f3 hx hy hp hq hpo hqo
  · intro k x p b o hk hx hp hpo
    rcases look k x hk with ⟨q1, x1, g1, rfl, g3, g4, g5⟩ | ⟨g1, g2, g3, g4⟩
    · rw [ren_live] at hx
      rw [g3] at hp
      rcases hb.own q1 x1 p b o g1 hx hp hpo with t | t
      · exact hZm b o t
      · exact hnew b t o
    · rw [g4] at hp
      exact h.own k x p b o g3 hx hp hpo
end Go.Eng

/- A machine of values for the program's code, part 15: the call as an operation. -/
namespace Go.Eng
open Go.RowKit

def freezeAll (ob : Store) : List Key → Option Store
  | [] => some ob
  | k :: ks => match ob k with
    | some (.arr true n es) => freezeAll (ob.set k (.froz n es)) ks
    | some (.froz _ _) => freezeAll ob ks
    | _ => none

def isFroz : Option Obj → Bool
  | some (.froz _ _) => true
  | _ => false

def addKeys (get : Store) : List Key → List Key → List Key
  | acc, [] => acc
  | acc, k :: ks => if k ∈ acc ∨ isFroz (get k) = true then addKeys get acc ks else addKeys get (acc ++ [k]) ks

def obMents (get : Store) (k : Key) : List Key :=
  match get k with
  | some x => x.ments
  | none => []

def reachN (get : Store) : Nat → List Key → List Key
  | 0, acc => acc
  | n + 1, acc => reachN get n (addKeys get acc (acc.flatMap (obMents get)))

def reach (get : Store) (vs : List V) : List Key := reachN get 3 (addKeys get [] (mentsL vs))

theorem addKeys_nodup {get : Store} : ∀ (ks : List Key) {acc : List Key}, acc.Nodup → (addKeys get acc ks).Nodup
  | [], _, h => h
  | k :: ks, acc, h => by
    unfold addKeys
    split
    · exact addKeys_nodup ks h
    · rename_i hn
      refine addKeys_nodup ks ?_
      rw [List.nodup_append]
      refine ⟨h, by simp, fun x hx y hy => ?_⟩
      simp at hy; subst hy
      rintro rfl
      exact hn (.inl hx)

theorem reachN_nodup {get : Store} : ∀ (n : Nat) {acc : List Key}, acc.Nodup → (reachN get n acc).Nodup
  | 0, _, h => h
  | n + 1, _, h => reachN_nodup n (addKeys_nodup _ h)

theorem reach_nodup (get : Store) (vs : List V) : (reach get vs).Nodup := reachN_nodup 3 (addKeys_nodup _ List.nodup_nil)

mutual
/-- The rows that a value names. -/
def V.rows : V → List Key
  | .ls k _ _ _ => [k]
  | .agg cs => rowsL cs
  | _ => []
def rowsL : List V → List Key
  | [] => []
  | v :: vs => v.rows ++ rowsL vs
end

def frzKeys (ps : List Nat) (vs : List V) : List Key := ps.flatMap fun i => match vs[i]? with
  | some v => v.rows
  | none => []

def callG (P : Program) (imm : FuncId → List Nat) (kb : Nat) (ob : Store) (f : FuncId) (vs : List V) (K : V → Store → Prop) : Prop :=
  match freezeAll ob (frzKeys (imm f) vs) with
  | none => False
  | some ob1 =>
    match argL ob1 (reach ob1 vs) vs, objsC ob1 (reach ob1 vs) (reach ob1 vs) with
    | some args, some objs => AC P f args objs fun v objs' news => freshKb ob1 kb news.length ∧ K (v.ren (backKey (reach ob1 vs) kb)) (backOb ob1 (reach ob1 vs) kb objs' news)
    | _, _ => False

theorem callG.mono' {P : Program} {imm : FuncId → List Nat} {kb : Nat} {ob : Store} {f : FuncId} {vs : List V} {K K' : V → Store → Prop} (h : callG P imm kb ob f vs K) (hk : ∀ v o, K v o → K' v o) : callG P imm kb ob f vs K' := by
  unfold callG at h ⊢
  split at h
  · exact h.elim
  split at h
  · exact h.mono fun _ _ _ ⟨h1, h2⟩ => ⟨h1, hk _ _ h2⟩
  · exact h.elim

section
variable {P : Program} {c : Ctx} {st : St} {a : Act} {w : World}

theorem freezeAll_sound : ∀ (ks : List Key) {F : Cells} {pl : Places} {ob ob' : Store}, Inv c F pl { st with ob := ob } a w → freezeAll ob ks = some ob' → ∃ F', Inv c F' pl { st with ob := ob' } a w
  | [], F, pl, ob, ob', h, hf => by simp [freezeAll] at hf; subst hf; exact ⟨F, h⟩
  | k :: ks, F, pl, ob, ob', h, hf => by
    simp only [freezeAll] at hf
    split at hf
    · rename_i n es hk
      obtain ⟨p, hp, _⟩ := h.wr.rep k _ hk
      exact freezeAll_sound ks (h.freeze hk hp) hf
    · exact freezeAll_sound ks h hf
    · cases hf

theorem call_sound {imm : FuncId → List Nat} {kb : Nat} (hk0 : kb ≠ 0) (h : InvE c st a w) (o : Oper) {fo : Operand} {as : Array Operand} {ts : Array TypeId} (hop : o.op = .call { callee := .value fo, args := as, argTypes := ts })
    {f : FuncId} {caps : List V} (hμ : ev st.tm fo = .fn f caps) {next : Act → World → Prop} {Q : Exit → Act → World → Prop}
    (hK : callG P imm kb st.ob f (as.toList.map (ev st.tm) ++ caps) fun v ob' => ∀ a' w', InvE c (({ st with ob := ob' } : St).put o.dst v) a' w' → next a' w') : o.wp P a w next Q := by
  obtain ⟨F, pl, hI⟩ := h
  unfold callG at hK
  split at hK
  · exact hK.elim
  rename_i ob1 hfr
  obtain ⟨F1, h1⟩ := freezeAll_sound (st := st) _ (ob := st.ob) hI hfr
  split at hK <;> try exact hK.elim
  rename_i args objs hargs hobjs
  have hnd := reach_nodup ob1 (as.toList.map (ev st.tm) ++ caps)
  generalize reach ob1 (as.toList.map (ev st.tm) ++ caps) = L at *
  have hw := handOver h1.wr hnd hobjs
  have hρ := ev_rep h1
  have hfo := hρ fo
  rw [show ev ({ st with ob := ob1 } : St).tm fo = .fn f caps from hμ] at hfo
  obtain ⟨cc, hcc, hcs, hcr⟩ := hfo.fn_inv
  obtain ⟨hal, hag⟩ := argL_get hargs
  have hrun : (execOp a.eval o).run P w = (callFunc f (as.map a.eval ++ cc)).run P w := by
    obtain ⟨dst, op, ty, pos, after, guard⟩ := o
    simp only at hop
    subst hop
    simp only [execOp, resolve, hcc, Deferred.ofValue, Sem.run_bind, Sem.run_pure, Result.andThen, invoke]
    simp
  have hgood := hK F1 (callPl pl L) w (as.map a.eval ++ cc) hw (by simp [hal, hcs]) (fun i x hi hx => by
    obtain ⟨v, hv, hvx⟩ := hag i x hx
    have : RepV F1 (memOf w) pl v (as.map a.eval ++ cc)[i] := by
      rcases Nat.lt_or_ge i as.size with g | g
      · rw [List.getElem?_append_left (by simpa using g)] at hv
        have := repMap (F := F1) (w := w) (pl := pl) (l := as.toList) hρ i v (by simpa using g) hv
        rw [Array.getElem_append_left (by simpa using g)]
        simpa using this
      · rw [List.getElem?_append_right (by simpa using g)] at hv
        simp only [List.length_map, Array.length_toList] at hv
        have h2 : i - as.size < cc.size := by rw [hcs]; exact (List.getElem?_eq_some_iff.1 hv).1
        have := hcr (i - as.size) v h2 hv
        rw [Array.getElem_append_right (by simpa using g)]
        simpa using this
    exact arg_sound this h1.wr.frozAt hvx)
  have fin : ∀ cv w', PostC F1 (callPl pl L) objs w (fun v objs' news => freshKb ob1 kb news.length ∧ ∀ a' w', InvE c (({ st with ob := backOb ob1 L kb objs' news } : St).put o.dst (v.ren (backKey L kb))) a' w' → next a' w') cv w' → next (a.put o.dst cv) w' := by
    rintro cv w' ⟨v, objs', news, F', pl', ⟨hfresh, hnext⟩, hb⟩
    obtain ⟨pl'', h2, h3⟩ := back_sound h1 hnd hobjs hk0 hb hfresh
    exact hnext _ _ ⟨F', pl'', h2.put o.dst h3⟩
  unfold Oper.wp
  rw [hrun]
  generalize (callFunc f (as.map a.eval ++ cc)).run P w = r at hgood
  cases r with
  | halt x w' => exact hgood.elim
  | ok x w' =>
    cases x <;> try exact hgood.elim
    · exact fin _ _ hgood
    · exact Calls.mono hgood fun e w'' ⟨v, he, hp⟩ => by
        subst he
        exact fin _ _ hp
end
end Go.Eng
