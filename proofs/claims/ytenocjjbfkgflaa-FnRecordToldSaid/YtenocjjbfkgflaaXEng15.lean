/- A machine of values for the program's code, part 15: the call as an operation. -/
import Derived.Test.YtenocjjbfkgflaaXEng14
namespace Go.Eng
open Go.RowKit

def freezeAll (ob : Store) : List Key → Option Store
  | [] => some ob
  | k :: ks => match ob k with
    | some (.arr true n es) => freezeAll (ob.set k (.froz n es)) ks
    | some (.froz _ _) => freezeAll ob ks
    | _ => none

def isFroz : Option Obj → Bool
  | some (.froz _ _) => true
  | _ => false

def addKeys (get : Store) : List Key → List Key → List Key
  | acc, [] => acc
  | acc, k :: ks => if k ∈ acc ∨ isFroz (get k) = true then addKeys get acc ks else addKeys get (acc ++ [k]) ks

def obMents (get : Store) (k : Key) : List Key :=
  match get k with
  | some x => x.ments
  | none => []

def reachN (get : Store) : Nat → List Key → List Key
  | 0, acc => acc
  | n + 1, acc => reachN get n (addKeys get acc (acc.flatMap (obMents get)))

def reach (get : Store) (vs : List V) : List Key := reachN get 3 (addKeys get [] (mentsL vs))

theorem addKeys_nodup {get : Store} : ∀ (ks : List Key) {acc : List Key}, acc.Nodup → (addKeys get acc ks).Nodup
  | [], _, h => h
  | k :: ks, acc, h => by
    unfold addKeys
    split
    · exact addKeys_nodup ks h
    · rename_i hn
      refine addKeys_nodup ks ?_
      rw [List.nodup_append]
      refine ⟨h, by simp, fun x hx y hy => ?_⟩
      simp at hy; subst hy
      rintro rfl
      exact hn (.inl hx)

theorem reachN_nodup {get : Store} : ∀ (n : Nat) {acc : List Key}, acc.Nodup → (reachN get n acc).Nodup
  | 0, _, h => h
  | n + 1, _, h => reachN_nodup n (addKeys_nodup _ h)

theorem reach_nodup (get : Store) (vs : List V) : (reach get vs).Nodup := reachN_nodup 3 (addKeys_nodup _ List.nodup_nil)

mutual
/-- The rows that a value names. -/
def V.rows : V → List Key
  | .ls k _ _ _ => [k]
  | .agg cs => rowsL cs
  | _ => []
def rowsL : List V → List Key
  | [] => []
  | v :: vs => v.rows ++ rowsL vs
end

def frzKeys (ps : List Nat) (vs : List V) : List Key := ps.flatMap fun i => match vs[i]? with
  | some v => v.rows
  | none => []

def callG (P : Program) (imm : FuncId → List Nat) (kb : Nat) (ob : Store) (f : FuncId) (vs : List V) (K : V → Store → Prop) : Prop :=
  match freezeAll ob (frzKeys (imm f) vs) with
  | none => False
  | some ob1 =>
    match argL ob1 (reach ob1 vs) vs, objsC ob1 (reach ob1 vs) (reach ob1 vs) with
    | some args, some objs => AC P f args objs fun v objs' news => freshKb ob1 kb news.length ∧ K (v.ren (backKey (reach ob1 vs) kb)) (backOb ob1 (reach ob1 vs) kb objs' news)
    | _, _ => False

theorem callG.mono' {P : Program} {imm : FuncId → List Nat} {kb : Nat} {ob : Store} {f : FuncId} {vs : List V} {K K' : V → Store → Prop} (h : callG P imm kb ob f vs K) (hk : ∀ v o, K v o → K' v o) : callG P imm kb ob f vs K' := by
  unfold callG at h ⊢
  split at h
  · exact h.elim
  split at h
  · exact h.mono fun _ _ _ ⟨h1, h2⟩ => ⟨h1, hk _ _ h2⟩
  · exact h.elim

section
variable {P : Program} {c : Ctx} {st : St} {a : Act} {w : World}

theorem freezeAll_sound : ∀ (ks : List Key) {F : Cells} {pl : Places} {ob ob' : Store}, Inv c F pl { st with ob := ob } a w → freezeAll ob ks = some ob' → ∃ F', Inv c F' pl { st with ob := ob' } a w
  | [], F, pl, ob, ob', h, hf => by simp [freezeAll] at hf; subst hf; exact ⟨F, h⟩
  | k :: ks, F, pl, ob, ob', h, hf => by
    simp only [freezeAll] at hf
    split at hf
    · rename_i n es hk
      obtain ⟨p, hp, _⟩ := h.wr.rep k _ hk
      exact freezeAll_sound ks (h.freeze hk hp) hf
    · exact freezeAll_sound ks h hf
    · cases hf

theorem call_sound {imm : FuncId → List Nat} {kb : Nat} (hk0 : kb ≠ 0) (h : InvE c st a w) (o : Oper) {fo : Operand} {as : Array Operand} {ts : Array TypeId} (hop : o.op = .call { callee := .value fo, args := as, argTypes := ts })
    {f : FuncId} {caps : List V} (hμ : ev st.tm fo = .fn f caps) {next : Act → World → Prop} {Q : Exit → Act → World → Prop}
    (hK : callG P imm kb st.ob f (as.toList.map (ev st.tm) ++ caps) fun v ob' => ∀ a' w', InvE c (({ st with ob := ob' } : St).put o.dst v) a' w' → next a' w') : o.wp P a w next Q := by
  obtain ⟨F, pl, hI⟩ := h
  unfold callG at hK
  split at hK
  · exact hK.elim
  rename_i ob1 hfr
  obtain ⟨F1, h1⟩ := freezeAll_sound (st := st) _ (ob := st.ob) hI hfr
  split at hK <;> try exact hK.elim
  rename_i args objs hargs hobjs
  have hnd := reach_nodup ob1 (as.toList.map (ev st.tm) ++ caps)
  generalize reach ob1 (as.toList.map (ev st.tm) ++ caps) = L at *
  have hw := handOver h1.wr hnd hobjs
  have hρ := ev_rep h1
  have hfo := hρ fo
  rw [show ev ({ st with ob := ob1 } : St).tm fo = .fn f caps from hμ] at hfo
  obtain ⟨cc, hcc, hcs, hcr⟩ := hfo.fn_inv
  obtain ⟨hal, hag⟩ := argL_get hargs
  have hrun : (execOp a.eval o).run P w = (callFunc f (as.map a.eval ++ cc)).run P w := by
    obtain ⟨dst, op, ty, pos, after, guard⟩ := o
    simp only at hop
    subst hop
    simp only [execOp, resolve, hcc, Deferred.ofValue, Sem.run_bind, Sem.run_pure, Result.andThen, invoke]
    simp
  have hgood := hK F1 (callPl pl L) w (as.map a.eval ++ cc) hw (by simp [hal, hcs]) (fun i x hi hx => by
    obtain ⟨v, hv, hvx⟩ := hag i x hx
    have : RepV F1 (memOf w) pl v (as.map a.eval ++ cc)[i] := by
      rcases Nat.lt_or_ge i as.size with g | g
      · rw [List.getElem?_append_left (by simpa using g)] at hv
        have := repMap (F := F1) (w := w) (pl := pl) (l := as.toList) hρ i v (by simpa using g) hv
        rw [Array.getElem_append_left (by simpa using g)]
        simpa using this
      · rw [List.getElem?_append_right (by simpa using g)] at hv
        simp only [List.length_map, Array.length_toList] at hv
        have h2 : i - as.size < cc.size := by rw [hcs]; exact (List.getElem?_eq_some_iff.1 hv).1
        have := hcr (i - as.size) v h2 hv
        rw [Array.getElem_append_right (by simpa using g)]
        simpa using this
    exact arg_sound this h1.wr.frozAt hvx)
  have fin : ∀ cv w', PostC F1 (callPl pl L) objs w (fun v objs' news => freshKb ob1 kb news.length ∧ ∀ a' w', InvE c (({ st with ob := backOb ob1 L kb objs' news } : St).put o.dst (v.ren (backKey L kb))) a' w' → next a' w') cv w' → next (a.put o.dst cv) w' := by
    rintro cv w' ⟨v, objs', news, F', pl', ⟨hfresh, hnext⟩, hb⟩
    obtain ⟨pl'', h2, h3⟩ := back_sound h1 hnd hobjs hk0 hb hfresh
    exact hnext _ _ ⟨F', pl'', h2.put o.dst h3⟩
  unfold Oper.wp
  rw [hrun]
  generalize (callFunc f (as.map a.eval ++ cc)).run P w = r at hgood
  cases r with
  | halt x w' => exact hgood.elim
  | ok x w' =>
    cases x <;> try exact hgood.elim
    · exact fin _ _ hgood
    · exact Calls.mono hgood fun e w'' ⟨v, he, hp⟩ => by
        subst he
        exact fin _ _ hp
end
end Go.Eng
