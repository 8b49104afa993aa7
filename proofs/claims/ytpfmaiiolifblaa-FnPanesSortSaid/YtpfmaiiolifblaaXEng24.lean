/- A machine of values for the program's code, part 24: the same machine, which puts each value into its plain form at once. -/
import Derived.Test.YtpfmaiiolifblaaXEng23
namespace Go.Eng
open Go.RowKit

def fNat (n : Nat) (K : Nat → Prop) : Prop :=
  match n with
  | 0 => K 0
  | m + 1 => K (m + 1)

theorem fNat_eq (n : Nat) (K : Nat → Prop) : fNat n K = K n := by cases n <;> rfl

/-- A value without parts, in its plain form. -/
def f0 : V → (V → Prop) → Prop
  | .un, K => K .un
  | .lit (.int k x), K => K (.lit (.int k x))
  | .lit (.bool b), K => K (.lit (.bool b))
  | .lit v, K => K (.lit v)
  | .e0, K => K .e0
  | .lp (a, b) n i o, K => fNat a fun a => fNat b fun b => K (.lp (a, b) n i o)
  | .ls (a, b) n i l, K => fNat a fun a => fNat b fun b => K (.ls (a, b) n i l)
  | .ip n es i o, K => K (.ip n es i o)
  | .is n es, K => K (.is n es)
  | .fn f cs, K => K (.fn f cs)
  | .agg cs, K => K (.agg cs)
  | .tup cs, K => K (.tup cs)

theorem f0_eq (v : V) (K : V → Prop) : f0 v K = K v := by
  cases v with
  | lit v => cases v <;> rfl
  | lp k => simp only [f0, fNat_eq]
  | ls k => simp only [f0, fNat_eq]
  | _ => rfl

def fL0 : List V → (List V → Prop) → Prop
  | [], K => K []
  | v :: l, K => f0 v fun v => fL0 l fun l => K (v :: l)

theorem fL0_eq : ∀ (l : List V) (K : List V → Prop), fL0 l K = K l
  | [], _ => rfl
  | v :: l, K => by simp only [fL0, f0_eq, fL0_eq l]

/-- A value that stands in a row, in its plain form. -/
def fW : V → (V → Prop) → Prop
  | .un, K => K .un
  | .lit (.int k x), K => K (.lit (.int k x))
  | .lit (.bool b), K => K (.lit (.bool b))
  | .lit v, K => K (.lit v)
  | .e0, K => K .e0
  | .lp (a, b) n i o, K => fNat a fun a => fNat b fun b => K (.lp (a, b) n i o)
  | .ls (a, b) n i l, K => fNat a fun a => fNat b fun b => K (.ls (a, b) n i l)
  | .ip n es i o, K => K (.ip n es i o)
  | .is n es, K => K (.is n es)
  | .fn f cs, K => K (.fn f cs)
  | .agg cs, K => fL0 cs fun cs => K (.agg cs)
  | .tup cs, K => K (.tup cs)

theorem fW_eq (v : V) (K : V → Prop) : fW v K = K v := by
  cases v with
  | lit v => cases v <;> rfl
  | agg cs => simp only [fW, fL0_eq]
  | lp k => simp only [fW, fNat_eq]
  | ls k => simp only [fW, fNat_eq]
  | _ => rfl

def fL : List V → (List V → Prop) → Prop
  | [], K => K []
  | v :: l, K => fW v fun v => fL l fun l => K (v :: l)

theorem fL_eq : ∀ (l : List V) (K : List V → Prop), fL l K = K l
  | [], _ => rfl
  | v :: l, K => by simp only [fL, fW_eq, fL_eq l]

def fV : V → (V → Prop) → Prop
  | .agg cs, K => fL cs fun cs => K (.agg cs)
  | .tup cs, K => fL cs fun cs => K (.tup cs)
  | .fn f cs, K => fL cs fun cs => K (.fn f cs)
  | .lit (.int k x), K => K (.lit (.int k x))
  | .lit (.bool b), K => K (.lit (.bool b))
  | .lit v, K => K (.lit v)
  | .un, K => K .un
  | .e0, K => K .e0
  | .lp (a, b) n i o, K => fNat a fun a => fNat b fun b => K (.lp (a, b) n i o)
  | .ls (a, b) n i l, K => fNat a fun a => fNat b fun b => K (.ls (a, b) n i l)
  | .ip n es i o, K => K (.ip n es i o)
  | .is n es, K => K (.is n es)

theorem fV_eq (v : V) (K : V → Prop) : fV v K = K v := by
  cases v with
  | lit v => cases v <;> rfl
  | agg cs => simp only [fV, fL_eq]
  | tup cs => simp only [fV, fL_eq]
  | fn f cs => simp only [fV, fL_eq]
  | lp k => simp only [fV, fNat_eq]
  | ls k => simp only [fV, fNat_eq]
  | _ => rfl

def fAt : Nat → List V → (List V → Prop) → Prop
  | _, [], K => K []
  | 0, v :: l, K => fV v fun v => K (v :: l)
  | n + 1, v :: l, K => fAt n l fun l => K (v :: l)

theorem fAt_eq : ∀ (n : Nat) (l : List V) (K : List V → Prop), fAt n l K = K l
  | 0, [], _ => rfl
  | _ + 1, [], _ => rfl
  | 0, v :: l, K => by simp only [fAt, fV_eq]
  | n + 1, v :: l, K => by simp only [fAt, fAt_eq n l]

def fDst : Option Nat → List V → (List V → Prop) → Prop
  | none, l, K => K l
  | some d, l, K => fAt d l K

theorem fDst_eq (d : Option Nat) (l : List V) (K : List V → Prop) : fDst d l K = K l := by
  cases d
  · rfl
  · exact fAt_eq _ l K

def fO (e : Bool) : Option Obj → (Option Obj → Prop) → Prop
  | none, K => K none
  | some .dead, K => K (some .dead)
  | some (.arr true n es), K => if e = true then fL es fun es => K (some (.arr true n es)) else K (some (.arr true n es))
  | some (.arr false n es), K => if e = true then fL es fun es => K (some (.arr false n es)) else K (some (.arr false n es))
  | some (.froz n es), K => if e = true then fL es fun es => K (some (.froz n es)) else K (some (.froz n es))

theorem fO_eq (e : Bool) (x : Option Obj) (K : Option Obj → Prop) : fO e x K = K x := by
  cases x with
  | none => rfl
  | some x =>
    cases x with
    | dead => rfl
    | arr kf n es => cases kf <;> cases e <;> simp [fO, fL_eq]
    | froz n es => cases e <;> simp [fO, fL_eq]

/-- A store in front of a store. -/
def ovr : List (Key × Option Obj) → Store → Store
  | [], ob => ob
  | (k, x) :: r, ob => fun l => if l = k then x else ovr r ob l

theorem ovr_same {ob : Store} : ∀ (l : List (Key × Option Obj)), (∀ k x, (k, x) ∈ l → x = ob k) → ovr l ob = ob
  | [], _ => rfl
  | (k, x) :: r, h => by
    funext l
    simp only [ovr]
    split
    · rename_i e; subst e; exact h _ _ (by simp)
    · rw [ovr_same r fun k x hm => h k x (by simp [hm])]

def fObs : List (Key × Bool) → Store → List (Key × Option Obj) → (Store → Prop) → Prop
  | [], ob, acc, K => K (ovr acc ob)
  | (k, e) :: ks, ob, acc, K => fO e (ob k) fun x => fObs ks ob ((k, x) :: acc) K

theorem fObs_eq : ∀ (ks : List (Key × Bool)) (ob : Store) (acc : List (Key × Option Obj)) (K : Store → Prop), (∀ k x, (k, x) ∈ acc → x = ob k) → fObs ks ob acc K = K ob
  | [], ob, acc, K, h => by simp only [fObs, ovr_same acc h]
  | (k, e) :: ks, ob, acc, K, h => by
    simp only [fObs, fO_eq]
    refine fObs_eq ks ob _ K fun k' x hm => ?_
    simp only [List.mem_cons, Prod.mk.injEq] at hm
    obtain ⟨rfl, rfl⟩ | hm := hm
    · rfl
    · exact h _ _ hm

def fSt (FK : List (Key × Bool)) (d : Option Nat) (st : St) (K : St → Prop) : Prop :=
  fDst d st.tm fun tm => fObs FK st.ob [] fun ob => K ⟨tm, ob⟩

theorem fSt_eq (FK : List (Key × Bool)) (d : Option Nat) (st : St) (K : St → Prop) : fSt FK d st K = K st := by
  simp only [fSt, fDst_eq]
  rw [fObs_eq FK st.ob [] _ (by simp)]

def fK : List Key → (List Key → Prop) → Prop
  | [], K => K []
  | (a, b) :: l, K => fK l fun l => K ((a, b) :: l)

theorem fK_eq : ∀ (l : List Key) (K : List Key → Prop), fK l K = K l
  | [], _ => rfl
  | (a, b) :: l, K => by simp only [fK, fK_eq l]

def addF (get : Store) : List Key → List Key → (List Key → Prop) → Prop
  | acc, [], K => K acc
  | acc, (a, b) :: ks, K => match decide ((a, b) ∈ acc) || isFroz (get (a, b)) with
    | true => addF get acc ks K
    | false => fK (acc ++ [(a, b)]) fun acc => addF get acc ks K

theorem addF_eq {get : Store} : ∀ (ks acc : List Key) (K : List Key → Prop), addF get acc ks K = K (addKeys get acc ks)
  | [], acc, K => rfl
  | (a, b) :: ks, acc, K => by
    unfold addF addKeys
    by_cases h : (a, b) ∈ acc ∨ isFroz (get (a, b)) = true
    · rw [if_pos h, show (decide ((a, b) ∈ acc) || isFroz (get (a, b))) = true by simpa using h]
      exact addF_eq ks acc K
    · rw [if_neg h, show (decide ((a, b) ∈ acc) || isFroz (get (a, b))) = false by simpa using h]
      simp only [fK_eq]
      exact addF_eq ks _ K

def reachG (get : Store) : Nat → List Key → (List Key → Prop) → Prop
  | 0, acc, K => K acc
  | n + 1, acc, K => addF get acc (acc.flatMap (obMents get)) fun acc => reachG get n acc K

theorem reachG_eq {get : Store} : ∀ (n : Nat) (acc : List Key) (K : List Key → Prop), reachG get n acc K = K (reachN get n acc)
  | 0, _, _ => rfl
  | n + 1, acc, K => by unfold reachG reachN; rw [addF_eq, reachG_eq n]

def reachF (get : Store) (vs : List V) (K : List Key → Prop) : Prop := addF get [] (mentsL vs) fun acc => reachG get 3 acc K

theorem reachF_eq {get : Store} {vs : List V} {K : List Key → Prop} : reachF get vs K = K (reach get vs) := by
  unfold reachF reach; rw [addF_eq, reachG_eq]

def expKF (ob : Store) (n : Nat) (v : V) (K : List Key → Prop) : Prop := fK ((List.range n).map fun j => (0, j)) fun acc => addF ob acc v.ments fun acc => reachG ob 3 acc K

theorem expKF_eq {ob : Store} {n : Nat} {v : V} {K : List Key → Prop} : expKF ob n v K = K (expKeys ob n v) := by
  unfold expKF expKeys; rw [fK_eq, addF_eq, reachG_eq]

def fOs : List Obj → (List Obj → Prop) → Prop
  | [], K => K []
  | .dead :: l, K => fOs l fun l => K (.dead :: l)
  | .arr true n es :: l, K => fOs l fun l => K (.arr true n es :: l)
  | .arr false n es :: l, K => fOs l fun l => K (.arr false n es :: l)
  | .froz n es :: l, K => fOs l fun l => K (.froz n es :: l)

theorem fOs_eq : ∀ (l : List Obj) (K : List Obj → Prop), fOs l K = K l
  | [], _ => rfl
  | .dead :: l, K => by simp only [fOs, fOs_eq l]
  | .arr true n es :: l, K => by simp only [fOs, fOs_eq l]
  | .arr false n es :: l, K => by simp only [fOs, fOs_eq l]
  | .froz n es :: l, K => by simp only [fOs, fOs_eq l]

def freshB (ob : Store) (kb : Nat) : Nat → Bool
  | 0 => true
  | n + 1 => (ob (kb, n)).isNone && freshB ob kb n

theorem freshB_iff {ob : Store} {kb : Nat} : ∀ {n : Nat}, freshB ob kb n = true → freshKb ob kb n
  | 0, _ => fun j h => absurd h (by omega)
  | n + 1, h => fun j hj => by
    simp only [freshB, Bool.and_eq_true, Option.isNone_iff_eq_none] at h
    by_cases e : j = n
    · subst e; exact h.1
    · exact freshB_iff h.2 j (by omega)

def bif' (b : Bool) (a : Prop) : Prop :=
  match b with
  | true => a
  | false => False

theorem bif'_iff {b : Bool} {a : Prop} : bif' b a ↔ b = true ∧ a := by cases b <;> simp [bif']

def flagOf : List (Key × Bool) → Key → Bool
  | [], _ => false
  | (k, e) :: r, l => if l = k then e else flagOf r l

def obind' {α : Type} (o : Option α) (K : α → Prop) : Prop :=
  match o with
  | some a => K a
  | none => False

/-- The arguments as the callee sees them; a row that is no longer written, whose elements are not listed, is asked for. -/
def argQ0 (FK : List (Key × Bool)) (get : Store) (L : List Key) : List V → (List V → Prop) → Prop
  | [], K => K []
  | .ls k n i len :: vs, K => match get k with
    | some (.froz n' es) => if flagOf FK k = true then obind' (argC get L (.ls k n i len)) fun u => argQ0 FK get L vs fun us => K (u :: us) else (n' = n ∧ i + len ≤ es.length) ∧ ∀ es', es' = (es.drop i).take len → argQ0 FK get L vs fun us => K (.is n es' :: us)
    | _ => obind' (argC get L (.ls k n i len)) fun u => argQ0 FK get L vs fun us => K (u :: us)
  | v :: vs, K => obind' (argC get L v) fun u => argQ0 FK get L vs fun us => K (u :: us)

theorem argQ0_sound {FK : List (Key × Bool)} {get : Store} {L : List Key} : ∀ {vs : List V} {K : List V → Prop}, argQ0 FK get L vs K → ∃ us, argL get L vs = some us ∧ K us := by
  have one : ∀ {v : V} {vs : List V} {K : List V → Prop} (_ : ∀ {K : List V → Prop}, argQ0 FK get L vs K → ∃ us, argL get L vs = some us ∧ K us), obind' (argC get L v) (fun u => argQ0 FK get L vs fun us => K (u :: us)) → ∃ us, argL get L (v :: vs) = some us ∧ K us := by
    intro v vs K ih h
    unfold obind' at h
    split at h
    · rename_i u e
      obtain ⟨us, h1, h2⟩ := ih h
      exact ⟨_, by simp only [argL, e, h1], h2⟩
    · exact h.elim
  intro vs
  induction vs with
  | nil => intro K h; exact ⟨_, by simp only [argL], h⟩
  | cons v vs ih =>
    intro K h
    unfold argQ0 at h
    split at h
    · rename_i e; cases e
    · rename_i k n i len vs' e
      cases e
      split at h
      · rename_i n' es e2
        split at h
        · exact one ih h
        · obtain ⟨hc, h⟩ := h
          obtain ⟨us, h1, h2⟩ := ih (h _ rfl)
          exact ⟨_, by simp only [argL, argC, e2, if_pos hc, h1], h2⟩
      · exact one ih h
    · rename_i e
      cases e
      exact one ih h

theorem argQ0_mono {FK : List (Key × Bool)} {get : Store} {L : List Key} : ∀ {vs : List V} {K K' : List V → Prop}, (∀ us, K us → K' us) → argQ0 FK get L vs K → argQ0 FK get L vs K' := by
  have one : ∀ {v : V} {vs : List V} {K K' : List V → Prop} (_ : ∀ {K K' : List V → Prop}, (∀ us, K us → K' us) → argQ0 FK get L vs K → argQ0 FK get L vs K'), (∀ us, K us → K' us) → obind' (argC get L v) (fun u => argQ0 FK get L vs fun us => K (u :: us)) → obind' (argC get L v) (fun u => argQ0 FK get L vs fun us => K' (u :: us)) := by
    intro v vs K K' ih hk h
    unfold obind' at h ⊢
    split at h
    · exact ih (fun us h => hk _ h) h
    · exact h.elim
  intro vs
  induction vs with
  | nil => intro K K' hk h; exact hk _ h
  | cons v vs ih =>
    intro K K' hk h
    cases v with
    | ls k n i len =>
      simp only [argQ0] at h ⊢
      split at h
      · split at h
        · rename_i hc; rw [if_pos hc]; exact one ih hk h
        · rename_i hc; rw [if_neg hc]; exact ⟨h.1, fun es' he => ih (fun us hu => hk _ hu) (h.2 es' he)⟩
      · exact one ih hk h
    | _ => simp only [argQ0] at h ⊢; exact one ih hk h

/-- The same for the arguments themselves, which may be structs. -/
def argQ (FK : List (Key × Bool)) (get : Store) (L : List Key) : List V → (List V → Prop) → Prop
  | [], K => K []
  | .agg cs :: vs, K => argQ0 FK get L cs fun ds => argQ FK get L vs fun us => K (.agg ds :: us)
  | v :: vs, K => argQ0 FK get L [v] fun ds => argQ FK get L vs fun us => K (ds ++ us)

theorem argQ_sound {FK : List (Key × Bool)} {get : Store} {L : List Key} : ∀ {vs : List V} {K : List V → Prop}, argQ FK get L vs K → ∃ us, argL get L vs = some us ∧ K us := by
  intro vs
  induction vs with
  | nil => intro K h; exact ⟨_, by simp only [argL], h⟩
  | cons v vs ih =>
    intro K h
    unfold argQ at h
    split at h
    · rename_i e; cases e
    · rename_i cs vs' e
      cases e
      obtain ⟨ds, h1, h⟩ := argQ0_sound h
      obtain ⟨us, h2, h⟩ := ih h
      exact ⟨_, by simp only [argL, argC, h1, h2], h⟩
    · rename_i e
      cases e
      obtain ⟨ds, h1, h⟩ := argQ0_sound h
      obtain ⟨us, h2, h⟩ := ih h
      simp only [argL] at h1
      split at h1 <;> try contradiction
      rename_i u e1
      cases h1
      exact ⟨_, by simp only [argL, e1, h2]; rfl, h⟩

theorem argQ_mono {FK : List (Key × Bool)} {get : Store} {L : List Key} : ∀ {vs : List V} {K K' : List V → Prop}, (∀ us, K us → K' us) → argQ FK get L vs K → argQ FK get L vs K' := by
  intro vs
  induction vs with
  | nil => intro K K' hk h; exact hk _ h
  | cons v vs ih =>
    intro K K' hk h
    cases v with
    | agg cs => simp only [argQ] at h ⊢; exact argQ0_mono (fun ds h => ih (fun us h => hk _ h) h) h
    | _ => simp only [argQ] at h ⊢; exact argQ0_mono (fun ds h => ih (fun us h => hk _ h) h) h

def callF (FK : List (Key × Bool)) (P : Program) (imm : FuncId → List Nat) (kb : Nat) (ob : Store) (f : FuncId) (vs : List V) (K : V → Store → Prop) : Prop :=
  fL vs fun vs => match freezeAll ob (frzKeys (imm f) vs) with
  | none => False
  | some ob1 => fObs FK ob1 [] fun ob1 => reachF ob1 vs fun L => argQ FK ob1 L vs fun args => match objsC ob1 L L with
    | some objs => fL args fun args => fOs objs fun objs => AC P f args objs fun v objs' news => bif' (freshB ob1 kb news.length) (K (v.ren (backKey L kb)) (backOb ob1 L kb objs' news))
    | none => False

theorem callF_callG {FK : List (Key × Bool)} {P : Program} {imm : FuncId → List Nat} {kb : Nat} {ob : Store} {f : FuncId} {vs : List V} {K : V → Store → Prop} (h : callF FK P imm kb ob f vs K) : callG P imm kb ob f vs K := by
  unfold callF at h
  rw [fL_eq] at h
  unfold callG
  cases e0 : freezeAll ob (frzKeys (imm f) vs) with
  | none => simp only [e0] at h
  | some ob1 =>
    simp only [e0] at h
    rw [fObs_eq FK ob1 [] _ (by simp), reachF_eq] at h
    obtain ⟨args, e1, h⟩ := argQ_sound h
    cases e2 : objsC ob1 (reach ob1 vs) (reach ob1 vs) with
    | none => simp only [e2] at h
    | some objs =>
      simp only [e2, fL_eq, fOs_eq] at h
      show (match argL ob1 (reach ob1 vs) vs, objsC ob1 (reach ob1 vs) (reach ob1 vs) with
        | some args, some objs => AC P f args objs fun v objs' news => freshKb ob1 kb news.length ∧ K (v.ren (backKey (reach ob1 vs) kb)) (backOb ob1 (reach ob1 vs) kb objs' news)
        | _, _ => False)
      simp only [e1, e2]
      refine AC.mono h fun v o n hv => ?_
      rw [bif'_iff] at hv
      exact ⟨freshB_iff hv.1, hv.2⟩

theorem callF_mono {FK : List (Key × Bool)} {P : Program} {imm : FuncId → List Nat} {kb : Nat} {ob : Store} {f : FuncId} {vs : List V} {K K' : V → Store → Prop} (h : callF FK P imm kb ob f vs K) (hk : ∀ v o, K v o → K' v o) : callF FK P imm kb ob f vs K' := by
  unfold callF at h ⊢
  rw [fL_eq] at h ⊢
  split at h
  · exact h.elim
  · rename_i ob1 e
    rw [fObs_eq FK ob1 [] _ (by simp), reachF_eq] at h ⊢
    refine argQ_mono (fun args h => ?_) h
    split at h
    · rw [fL_eq, fOs_eq] at h ⊢
      exact h.mono fun v o n hv => by
        rw [bif'_iff] at hv ⊢
        exact ⟨hv.1, hk _ _ hv.2⟩
    · exact h.elim

def putF (tm : List V) (dst : Option Nat) (v : V) (K : List V → Prop) : Prop :=
  match dst with
  | none => K tm
  | some d => fAt d (tm.set d v) K

/-- A result is put into its place. -/
def putV (FK : List (Key × Bool)) (tm : List V) (ob : Store) (dst : Option Nat) (v : V) (K : St → Prop) : Prop :=
  fV v fun v => putF tm dst v fun tm => fObs FK ob [] fun ob => K ⟨tm, ob⟩

theorem putV_eq {FK : List (Key × Bool)} {tm : List V} {ob : Store} {dst : Option Nat} {v : V} {K : St → Prop} : putV FK tm ob dst v K = K ((⟨tm, ob⟩ : St).put dst v) := by
  unfold putV
  rw [fV_eq]
  unfold putF St.put
  cases dst with
  | none => simp only; rw [fObs_eq FK ob [] _ (by simp)]
  | some d => simp only [fAt_eq]; rw [fObs_eq FK ob [] _ (by simp)]

def callStepF (FK : List (Key × Bool)) (P : Program) (A : Ann) (o : Oper) (st : St) (K : St → Prop) : Prop :=
  match o.op with
  | .call { callee := .value fo, args := as, .. } => match st with
    | ⟨tm, ob⟩ => fV (ev tm fo) fun v => match v with
      | .fn f caps => callF FK P A.imm (kbO o) ob f (as.toList.map (ev tm) ++ caps) fun v ob' => putV FK tm ob' o.dst v K
      | _ => False
  | _ => False

theorem callStepF_sound {FK : List (Key × Bool)} {P : Program} {A : Ann} {o : Oper} {st : St} {K : St → Prop} (h : callStepF FK P A o st K) : callStep P A o st K := by
  cases st
  unfold callStepF at h
  unfold callStep
  split
  · rename_i e
    rw [e] at h
    simp only [fV_eq] at h
    split
    · rename_i e2
      simp only [e2, putV_eq] at h
      exact callF_callG h
    · rename_i e2
      split at h
      · rename_i e3; exact absurd e3 (e2 _ _)
      · exact h
  · rename_i e
    split at h
    · rename_i e3; exact absurd e3 (e _ _ _)
    · exact h

theorem callStepF_mono {FK : List (Key × Bool)} {P : Program} {A : Ann} {o : Oper} {st : St} {K K' : St → Prop} (h : callStepF FK P A o st K) (hk : ∀ s, K s → K' s) : callStepF FK P A o st K' := by
  cases st
  unfold callStepF at h ⊢
  split at h <;> try exact h.elim
  dsimp only at h ⊢
  rw [fV_eq] at h ⊢
  split at h <;> try exact h.elim
  simp only [putV_eq] at h ⊢
  exact callF_mono h fun v o hv => hk _ hv

def sliceC (len : Nat) (lo hi mx : Option V) (K : Nat → Nat → Prop) : Prop :=
  match mx with
  | some _ => False
  | none => match hi with
    | some vh => fV vh fun vh => match vh with
      | .lit (.int _ h) => match lo with
        | some vl => fV vl fun vl => match vl with
          | .lit (.int _ l) => ((0 ≤ h ∧ h ≤ len) ∧ 0 ≤ l ∧ l ≤ h) ∧ K l.toNat h.toNat
          | _ => False
        | none => (0 ≤ h ∧ h ≤ len) ∧ K 0 h.toNat
      | _ => False
    | none => match lo with
      | some vl => fV vl fun vl => match vl with
        | .lit (.int _ l) => (0 ≤ l ∧ l ≤ len) ∧ K l.toNat len
        | _ => False
      | none => K 0 len

theorem sliceC_sound {len : Nat} {lo hi mx : Option V} {K : Nat → Nat → Prop} (h : sliceC len lo hi mx K) : ∃ b, boundsV len lo hi mx = some b ∧ K b.1 b.2 := by
  unfold sliceC at h
  unfold boundsV
  cases mx with
  | some _ => exact h.elim
  | none =>
    simp only at h ⊢
    cases hi with
    | some vh =>
      simp only [fV_eq] at h ⊢
      split at h
      · rename_i k hh
        simp only
        cases lo with
        | some vl =>
          simp only at h ⊢
          split at h
          · obtain ⟨⟨h1, h2⟩, h3⟩ := h
            simp only
            rw [if_pos h1, if_pos h2]
            exact ⟨_, rfl, h3⟩
          · exact h.elim
        | none =>
          simp only at h ⊢
          rw [if_pos h.1]
          exact ⟨_, rfl, h.2⟩
      · exact h.elim
    | none =>
      simp only at h ⊢
      cases lo with
      | some vl =>
        simp only [fV_eq] at h ⊢
        split at h
        · simp only
          rw [if_pos h.1]
          exact ⟨_, rfl, h.2⟩
        · exact h.elim
      | none => exact ⟨_, rfl, h⟩

def isConst : Operand → Bool
  | .const _ => true
  | _ => false

def fUps (FK : List (Key × Bool)) : List (Key × Obj) → (List (Key × Obj) → Prop) → Prop
  | [], K => K []
  | ((a, b), x) :: r, K => fO (flagOf FK (a, b)) (some x) fun y => match y with
    | some x => fUps FK r fun r => K (((a, b), x) :: r)
    | none => False

theorem fUps_eq {FK : List (Key × Bool)} : ∀ (l : List (Key × Obj)) (K : List (Key × Obj) → Prop), fUps FK l K = K l
  | [], _ => rfl
  | ((a, b), x) :: r, K => by simp only [fUps, fO_eq, fUps_eq r]

def setsF (ob : Store) : List (Key × Obj) → Store
  | [] => ob
  | u :: us => ob.sets (u :: us)

theorem setsF_eq {ob : Store} {us : List (Key × Obj)} : setsF ob us = ob.sets us := by cases us <;> rfl

def upOb (ob : Store) (us : List (Key × Obj)) (K : Store → Prop) : Prop :=
  match us with
  | [] => K ob
  | u :: us => K (ob.sets (u :: us))

theorem upOb_eq {ob : Store} {us : List (Key × Obj)} {K : Store → Prop} : upOb ob us K = K (ob.sets us) := by cases us <;> rfl

def appF (FK : List (Key × Bool)) (st : St) (o : Oper) (r : V × List (Key × Obj)) (K : St → Prop) : Prop :=
  match st with
  | ⟨tm, ob⟩ => fV r.1 fun v => fUps FK r.2 fun us => putF tm o.dst v fun tm => upOb ob us fun ob => K ⟨tm, ob⟩

theorem appF_eq {FK : List (Key × Bool)} {st : St} {o : Oper} {r : V × List (Key × Obj)} {K : St → Prop} : appF FK st o r K = K (app st o r) := by
  cases st
  unfold appF app
  simp only [fV_eq, fUps_eq, upOb_eq]
  unfold putF St.put
  cases o.dst with
  | none => rfl
  | some d => simp only [fAt_eq]

/-- The objects made at site s go by numbers that are not known (a row ((999, s), false) says so). -/
def famGo : List (Key × Bool) → Nat → Bool
  | [], _ => false
  | ((a, b), _) :: r, s => bif Nat.beq a 999 && Nat.beq b s then true else famGo r s
def famOf (FK : List (Key × Bool)) (k : Key) : Bool :=
  match k with
  | (s, _) => famGo FK s

def storeC (FK : List (Key × Bool)) (tt : TT) (get : Store) (t : TypeId) (a x : V) (K : List (Key × Obj) → Prop) : Prop :=
  match tt t, a with
  | some ti, .lp k n i off => if flagOf FK k = true then obind (storeF tt get t (.lp k n i off) x) K else if famOf FK k = true then ∃ es, get k = some (.arr true n es) ∧ (okE ti.size x = true ∧ k ∉ x.ments) ∧ ∃ e, es[i]? = some e ∧ obind (frz get x) fun y => obind (setCellsV e off y.1.cells) fun e' => fV e' fun e' => K (y.2 ++ [(k, .arr true n (es.set i e'))])
      else match get k with
    | some (.arr kf n' es) => (n' = n ∧ okE ti.size x = true ∧ k ∉ x.ments) ∧ ∃ e, es[i]? = some e ∧ obind (keepOrFrz kf get x) fun y => obind (setCellsV e off y.1.cells) fun e' => fV e' fun e' => ∀ es', es' = es.set i e' → K (y.2 ++ [(k, .arr kf n es')])
    | _ => False
  | _, _ => False

theorem storeC_sound {FK : List (Key × Bool)} {tt : TT} {get : Store} {t : TypeId} {a x : V} {K : List (Key × Obj) → Prop} (h : storeC FK tt get t a x K) : ∃ u, storeF tt get t a x = some u ∧ K u := by
  unfold storeC at h
  split at h <;> try exact h.elim
  rename_i ti k n i off e1 
  split at h
  · rw [obind_iff] at h; exact h
  split at h
  · obtain ⟨es, e3, h1, e, h2, h3⟩ := h
    rw [obind_iff] at h3
    obtain ⟨y, h3, h4⟩ := h3
    rw [obind_iff] at h4
    obtain ⟨e', h4, h5⟩ := h4
    rw [fV_eq] at h5
    refine ⟨_, ?_, h5⟩
    simp only [storeF, e1, e3]
    rw [if_pos (by simpa using h1)]
    simp only [h2, keepOrFrz, if_true, h3, h4]
  · split at h <;> try exact h.elim
    rename_i kf n' es e3
    obtain ⟨⟨rfl, h1⟩, e, h2, h3⟩ := h
    rw [obind_iff] at h3
    obtain ⟨y, h3, h4⟩ := h3
    rw [obind_iff] at h4
    obtain ⟨e', h4, h5⟩ := h4
    rw [fV_eq] at h5
    refine ⟨_, ?_, h5 _ rfl⟩
    simp only [storeF, e1, e3]
    rw [if_pos (by simpa using h1)]
    simp only [h2, h3, h4]

theorem storeC_mono {FK : List (Key × Bool)} {tt : TT} {get : Store} {t : TypeId} {a x : V} {K K' : List (Key × Obj) → Prop} (hk : ∀ u, K u → K' u) (h : storeC FK tt get t a x K) : storeC FK tt get t a x K' := by
  have om : ∀ {α : Type} {x : Option α} {K K' : α → Prop}, (∀ r, K r → K' r) → obind x K → obind x K' := fun hk h => by
    rw [obind_iff] at h ⊢
    obtain ⟨r, h1, h2⟩ := h
    exact ⟨r, h1, hk _ h2⟩
  unfold storeC at h ⊢
  split at h <;> try exact h.elim
  split at h
  · rename_i hc; rw [if_pos hc]; exact om hk h
  rename_i hc
  rw [if_neg hc]
  split at h
  · rename_i hc; rw [if_pos hc]
    obtain ⟨es, h0, h1, e, h2, h3⟩ := h
    refine ⟨es, h0, h1, e, h2, om (fun y hy => om (fun e' he => ?_) hy) h3⟩
    rw [fV_eq] at he ⊢
    exact hk _ he
  · rename_i hc
    rw [if_neg hc]
    split at h <;> try exact h.elim
    obtain ⟨h1, e, h2, h3⟩ := h
    refine ⟨h1, e, h2, om (fun y hy => om (fun e' he => ?_) hy) h3⟩
    rw [fV_eq] at he ⊢
    exact fun es' h => hk _ (he es' h)

/-- The elements that are appended or copied. -/
def srcC (FK : List (Key × Bool)) (get : Store) (n : Nat) (st : Bool) (x : V) (K : List V → Prop) : Prop :=
  match st, x with
  | false, .lit (.slice none 0 0) => K []
  | false, .lit (.slice (some _) 0 _) => K []
  | false, .e0 => K []
  | false, .is n' es => n' = n ∧ K es
  | false, .ls k n' i len => if flagOf FK k = true then obind (srcV get n st x) fun xs => fL xs K else match get k with
    | some (.arr true n'' es) => (n' = n ∧ n'' = n ∧ i + len ≤ es.length) ∧ ∀ xs, xs = (es.drop i).take len → K xs
    | some (.froz n'' es) => (n' = n ∧ n'' = n ∧ i + len ≤ es.length) ∧ ∀ xs, xs = (es.drop i).take len → K xs
    | _ => False
  | true, .lit (.string s) => n = 1 ∧ K (s.data.toList.map fun b => .lit (.int .u8 b.toNat))
  | _, _ => False

theorem obind_ex {α : Type} {x : Option α} {K : α → Prop} (h : obind x K) : ∃ r, x = some r ∧ K r := by
  rw [obind_iff] at h; exact h

theorem srcC_sound {FK : List (Key × Bool)} {get : Store} {n : Nat} {st : Bool} {x : V} {K : List V → Prop} (h : srcC FK get n st x K) : ∃ xs, srcV get n st x = some xs ∧ K xs := by
  unfold srcC at h
  split at h
  · exact ⟨_, rfl, h⟩
  · exact ⟨_, rfl, h⟩
  · exact ⟨_, rfl, h⟩
  · exact ⟨_, by simp only [srcV]; rw [if_pos h.1], h.2⟩
  · split at h
    · obtain ⟨xs, h1, h2⟩ := obind_ex h
      rw [fL_eq] at h2
      exact ⟨xs, h1, h2⟩
    · split at h <;> try exact h.elim
      all_goals
        rename_i e
        exact ⟨_, by simp only [srcV, e]; rw [if_pos h.1], h.2 _ rfl⟩
  · exact ⟨_, by simp only [srcV]; rw [if_pos h.1], h.2⟩
  · exact h.elim

theorem srcC_mono {FK : List (Key × Bool)} {get : Store} {n : Nat} {st : Bool} {x : V} {K K' : List V → Prop} (hk : ∀ xs, K xs → K' xs) (h : srcC FK get n st x K) : srcC FK get n st x K' := by
  unfold srcC at h ⊢
  split at h
  · exact hk _ h
  · exact hk _ h
  · exact hk _ h
  · exact ⟨h.1, hk _ h.2⟩
  · split at h
    · rename_i hc; rw [if_pos hc]
      rw [obind_iff] at h ⊢
      obtain ⟨xs, h1, h2⟩ := h
      rw [fL_eq] at h2
      exact ⟨xs, h1, by rw [fL_eq]; exact hk _ h2⟩
    · rename_i hc; rw [if_neg hc]
      split at h <;> try exact h.elim
      all_goals exact ⟨h.1, fun xs hx => hk _ (h.2 xs hx)⟩
  · exact ⟨h.1, hk _ h.2⟩
  · exact h.elim

def askI : List (Key × Bool) → Bool
  | ((a, _), _) :: _ => Nat.beq a 997
  | [] => false
/-- A new row: its name is asked for where numbers are. -/
def newK (FK : List (Key × Bool)) (xs : List V) (K : Nat → List V → Prop) : Prop :=
  match askI FK with
  | true => ∀ l' es', l' = xs.length → es' = xs → K l' es'
  | false => K xs.length xs
theorem newK_le {FK : List (Key × Bool)} {xs : List V} {K : Nat → List V → Prop} (h : newK FK xs K) : K xs.length xs := by
  unfold newK at h
  cases e : askI FK
  · rw [e] at h; exact h
  · rw [e] at h; exact h _ _ rfl rfl
theorem newK_mono {FK : List (Key × Bool)} {xs : List V} {K K' : Nat → List V → Prop} (hk : ∀ l es, K l es → K' l es) (h : newK FK xs K) : newK FK xs K' := by
  unfold newK at h ⊢
  cases e : askI FK
  · rw [e] at h; exact hk _ _ h
  · rw [e] at h; exact fun l' es' h1 h2 => hk _ _ (h l' es' h1 h2)
/-- Append: what must be so is asked for. -/
def appC (FK : List (Key × Bool)) (ei : TI) (nk : Key) (get : Store) (xs : List V) (s x : V) (K : V × List (Key × Obj) → Prop) : Prop :=
  match s with
  | .lit (.slice none 0 0) => match xs with
    | [] => ei.size ≠ 0 ∧ K (nilV, [])
    | y :: ys => (ei.size ≠ 0 ∧ roomOk (y :: ys).length ei.bytes ∧ get nk = none) ∧ newK FK (y :: ys) fun l' es' => K (.ls nk ei.size 0 l', [(nk, .arr true ei.size es')])
  | .e0 => match xs with
    | [] => ei.size ≠ 0 ∧ K (.e0, [])
    | y :: ys => (ei.size ≠ 0 ∧ roomOk (y :: ys).length ei.bytes ∧ get nk = none) ∧ newK FK (y :: ys) fun l' es' => K (.ls nk ei.size 0 l', [(nk, .arr true ei.size es')])
  | .ls k n i len => if flagOf FK k = true then obind (appendV ei nk get xs (.ls k n i len) x) K else match get k with
    | some (.arr true n' es) => (ei.size ≠ 0 ∧ n = ei.size ∧ n' = ei.size ∧ i + len ≤ es.length ∧ roomOk (len + xs.length) ei.bytes ∧ get nk = none ∧ k ∉ mentsOne x) ∧
        ∀ l' es', l' = len + xs.length → es' = (es.drop i).take len ++ xs → K (.ls nk ei.size 0 l', [(k, .dead), (nk, .arr true ei.size es')])
    | _ => False
  | _ => False

theorem appC_sound {FK : List (Key × Bool)} {ei : TI} {nk : Key} {get : Store} {xs : List V} {s x : V} {K : V × List (Key × Obj) → Prop} (h : appC FK ei nk get xs s x K) : ∃ r, appendV ei nk get xs s x = some r ∧ K r := by
  unfold appC at h
  split at h
  · split at h
    · exact ⟨_, by simp only [appendV]; rw [if_neg h.1]; rfl, h.2⟩
    · exact ⟨_, by simp only [appendV]; rw [if_neg h.1.1, if_neg (by simp), if_pos h.1.2], newK_le h.2⟩
  · split at h
    · exact ⟨_, by simp only [appendV]; rw [if_neg h.1]; rfl, h.2⟩
    · exact ⟨_, by simp only [appendV]; rw [if_neg h.1.1, if_neg (by simp), if_pos h.1.2], newK_le h.2⟩
  · split at h
    · exact obind_ex h
    · split at h <;> try exact h.elim
      rename_i e
      exact ⟨_, by simp only [appendV, e]; rw [if_neg h.1.1, if_pos h.1.2], h.2 _ _ rfl rfl⟩
  · exact h.elim

theorem appC_mono {FK : List (Key × Bool)} {ei : TI} {nk : Key} {get : Store} {xs : List V} {s x : V} {K K' : V × List (Key × Obj) → Prop} (hk : ∀ r, K r → K' r) (h : appC FK ei nk get xs s x K) : appC FK ei nk get xs s x K' := by
  unfold appC at h ⊢
  split at h
  · split at h
    · exact ⟨h.1, hk _ h.2⟩
    · exact ⟨h.1, newK_mono (fun _ _ h => hk _ h) h.2⟩
  · split at h
    · exact ⟨h.1, hk _ h.2⟩
    · exact ⟨h.1, newK_mono (fun _ _ h => hk _ h) h.2⟩
  · split at h
    · rename_i hc; rw [if_pos hc]
      rw [obind_iff] at h ⊢
      obtain ⟨r, h1, h2⟩ := h
      exact ⟨r, h1, hk _ h2⟩
    · rename_i hc; rw [if_neg hc]
      split at h <;> try exact h.elim
      exact ⟨h.1, fun l' es' h1 h2 => hk _ (h.2 l' es' h1 h2)⟩
  · exact h.elim

/-- Copy: what must be so is asked for. -/
def copyC (FK : List (Key × Bool)) (ei : TI) (get : Store) (xs : List V) (d : V) (K : V × List (Key × Obj) → Prop) : Prop :=
  match d with
  | .ls k n i len => if flagOf FK k = true then obind (copyF ei get xs (.ls k n i len)) K else match get k with
    | some (.arr true n' es) => (n = ei.size ∧ n' = ei.size ∧ i + len ≤ es.length) ∧ ∀ m es', m = Nat.min xs.length len → es' = es.take i ++ xs.take m ++ es.drop (i + m) → K (.lit (.int .i64 m), [(k, .arr true n' es')])
    | _ => False
  | _ => False

theorem copyC_sound {FK : List (Key × Bool)} {ei : TI} {get : Store} {xs : List V} {d : V} {K : V × List (Key × Obj) → Prop} (h : copyC FK ei get xs d K) : ∃ r, copyF ei get xs d = some r ∧ K r := by
  unfold copyC at h
  split at h
  · split at h
    · exact obind_ex h
    · split at h <;> try exact h.elim
      rename_i e
      exact ⟨_, by simp only [copyF, e]; rw [if_pos h.1], h.2 _ _ rfl rfl⟩
  · exact h.elim

theorem copyC_mono {FK : List (Key × Bool)} {ei : TI} {get : Store} {xs : List V} {d : V} {K K' : V × List (Key × Obj) → Prop} (hk : ∀ r, K r → K' r) (h : copyC FK ei get xs d K) : copyC FK ei get xs d K' := by
  unfold copyC at h ⊢
  split at h
  · split at h
    · rename_i hc; rw [if_pos hc]
      rw [obind_iff] at h ⊢
      obtain ⟨r, h1, h2⟩ := h
      exact ⟨r, h1, hk _ h2⟩
    · rename_i hc; rw [if_neg hc]
      split at h <;> try exact h.elim
      exact ⟨h.1, fun l' es' h1 h2 => hk _ (h.2 l' es' h1 h2)⟩
  · exact h.elim

/-- One of two, by a bool. -/
def pif (c : Bool) (a b : Prop) : Prop :=
  match c with
  | true => a
  | false => b

theorem pif_bool {c : Bool} {a b : Prop} (ha : c = true → a) (hb : c = false → b) : pif c a b := by
  cases c
  · exact hb rfl
  · exact ha rfl

/-- A value that is to be put into a row: what must be so is asked for. -/
def frzQ (FK : List (Key × Bool)) (get : Store) (x : V) (K : V × List (Key × Obj) → Prop) : Prop :=
  match x with
  | .ls k n i len => if flagOf FK k = true then obind (frz get (.ls k n i len)) K else match get k with
    | some (.arr true n' es) => (n' = n ∧ i + len ≤ es.length) ∧ ∀ es', es' = (es.drop i).take len → K (.is n es', [(k, .froz n es)])
    | some (.froz n' es) => (n' = n ∧ i + len ≤ es.length) ∧ ∀ es', es' = (es.drop i).take len → K (.is n es', [])
    | _ => False
  | x => obind (frz get x) K

theorem obind_mono {α : Type} {x : Option α} {K K' : α → Prop} (hk : ∀ r, K r → K' r) (h : obind x K) : obind x K' := by
  rw [obind_iff] at h ⊢
  obtain ⟨r, h1, h2⟩ := h
  exact ⟨r, h1, hk _ h2⟩

theorem frzQ_sound {FK : List (Key × Bool)} {get : Store} {x : V} {K : V × List (Key × Obj) → Prop} (h : frzQ FK get x K) : ∃ r, frz get x = some r ∧ K r := by
  unfold frzQ at h
  split at h
  · split at h
    · exact obind_ex h
    · split at h <;> try exact h.elim
      all_goals
        rename_i e
        exact ⟨_, by simp only [frz, frzC, e]; rw [if_pos h.1], h.2 _ rfl⟩
  · exact obind_ex h

theorem frzQ_mono {FK : List (Key × Bool)} {get : Store} {x : V} {K K' : V × List (Key × Obj) → Prop} (hk : ∀ r, K r → K' r) (h : frzQ FK get x K) : frzQ FK get x K' := by
  unfold frzQ at h ⊢
  split at h
  · split at h
    · rename_i hc; rw [if_pos hc]; exact obind_mono hk h
    · rename_i hc; rw [if_neg hc]
      split at h <;> try exact h.elim
      all_goals exact ⟨h.1, fun es' he => hk _ (h.2 es' he)⟩
  · exact obind_mono hk h

def isLs : V → Bool
  | .ls .. => true
  | _ => false

def putQ (FK : List (Key × Bool)) (n : Nat) (get : Store) : List V → List (Nat × V) → (List V × List (Key × Obj) → Prop) → Prop
  | es, [], K => K (es, [])
  | es, (i, x) :: r, K => bif' (decide (i < es.length) && okE n x) (frzQ FK get x fun p => putQ FK n get (es.set i p.1) r fun q => K (q.1, p.2 ++ q.2))

theorem putQ_sound {FK : List (Key × Bool)} {n : Nat} {get : Store} : ∀ {ps : List (Nat × V)} {es : List V} {K : List V × List (Key × Obj) → Prop}, putQ FK n get es ps K → ∃ r, putParts n get es ps = some r ∧ K r
  | [], es, K, h => ⟨_, rfl, h⟩
  | (i, x) :: ps, es, K, h => by
    unfold putQ at h
    rw [bif'_iff, Bool.and_eq_true, decide_eq_true_iff] at h
    obtain ⟨p, h1, h2⟩ := frzQ_sound h.2
    obtain ⟨q, h3, h4⟩ := putQ_sound h2
    obtain ⟨p1, p2⟩ := p
    obtain ⟨q1, q2⟩ := q
    exact ⟨_, by simp only [putParts]; rw [if_pos h.1]; simp only [h1, h3], h4⟩

theorem putQ_mono {FK : List (Key × Bool)} {n : Nat} {get : Store} : ∀ {ps : List (Nat × V)} {es : List V} {K K' : List V × List (Key × Obj) → Prop}, (∀ r, K r → K' r) → putQ FK n get es ps K → putQ FK n get es ps K'
  | [], es, K, K', hk, h => hk _ h
  | (i, x) :: ps, es, K, K', hk, h => by
    unfold putQ at h ⊢
    rw [bif'_iff] at h ⊢
    exact ⟨h.1, frzQ_mono (fun p hp => putQ_mono (fun q hq => hk _ hq) hp) h.2⟩

/-- A struct is built part by part, each time in its plain form. -/
def fillQ (place : Nat → Option (Nat × Nat)) : List V → List (Nat × V) → (List V → Prop) → Prop
  | cells, [], K => K cells
  | cells, (i, v) :: rest, K => match place i with
    | none => False
    | some (off, size) => fV v fun v => bif' (decide (v.cells.length = size ∧ off + size ≤ cells.length) && v.cells.all scal) (fL (cells.take off ++ v.cells ++ cells.drop (off + size)) fun cells => fillQ place cells rest K)

theorem fillQ_sound {place : Nat → Option (Nat × Nat)} : ∀ {ps : List (Nat × V)} {cells : List V} {K : List V → Prop}, fillQ place cells ps K → ∃ out, fillV place cells ps = some out ∧ K out
  | [], cells, K, h => ⟨_, rfl, h⟩
  | (i, v) :: ps, cells, K, h => by
    unfold fillQ at h
    split at h
    · exact h.elim
    · rename_i off size e
      rw [fV_eq, bif'_iff, fL_eq, Bool.and_eq_true, decide_eq_true_iff] at h
      obtain ⟨out, h1, h2⟩ := fillQ_sound h.2
      exact ⟨out, by simp only [fillV, e]; rw [if_pos ⟨h.1.1.1, h.1.1.2, h.1.2⟩]; exact h1, h2⟩

theorem fillQ_mono {place : Nat → Option (Nat × Nat)} : ∀ {ps : List (Nat × V)} {cells : List V} {K K' : List V → Prop}, (∀ r, K r → K' r) → fillQ place cells ps K → fillQ place cells ps K'
  | [], cells, K, K', hk, h => hk _ h
  | (i, v) :: ps, cells, K, K', hk, h => by
    unfold fillQ at h ⊢
    split at h
    · exact h.elim
    · rw [fV_eq, bif'_iff, fL_eq] at h ⊢
      exact ⟨h.1, fillQ_mono hk h.2⟩

/-- An operation that is no call: what must be so is asked for. -/
def opC (FK : List (Key × Bool)) (tt : TT) (nk : Key) (op : Op) (μ : Operand → V) (get : Store) (K : V × List (Key × Obj) → Prop) : Prop :=
  match op with
  | .build t parts => match tt t with
    | some ti => match ti.td with
      | .struct fs => bif' (fs.all fun x => (tt x.2).isSome) (fL (ti.zero.map fun z => .lit z.val) fun zs => fillQ (placeV tt fs) zs (parts.toList.map fun p => (p.1, μ p.2)) fun out => K (.agg out, []))
      | _ => False
    | none => False
  | .indexAddr t x ix => match tt t with
    | some ⟨.slice e, _, _, _⟩ => match tt e with
      | some ei => fV (μ x) fun vx => fV (μ ix) fun vi => match vx, vi with
        | .is n es, .lit (.int _ i) => (ei.size = n ∧ 0 ≤ i ∧ i < es.length) ∧ K (.ip n es i.toNat 0, [])
        | .ls k n i0 len, .lit (.int _ i) => (ei.size = n ∧ 0 ≤ i ∧ i < len) ∧ K (.lp k n (i0 + i.toNat) 0, [])
        | _, _ => False
      | none => False
    | _ => False
  | .load t a => fV (μ a) fun va => match tt t, va with
    | some ti, .ip _ es i off => ∃ e, es[i]? = some e ∧ obind (loadV ti e off) fun v => K (v, [])
    | some ti, .lp k n i off => if flagOf FK k = true then obind (opF tt nk (.load t a) μ get) K else if famOf FK k = true then ∃ es, get k = some (.arr true n es) ∧ ∃ e, es[i]? = some e ∧ obind (loadV ti e off) fun v => K (v, []) else match get k with
      | some (.arr _ n' es) => n' = n ∧ ∃ e, es[i]? = some e ∧ obind (loadV ti e off) fun v => K (v, [])
      | some (.froz n' es) => n' = n ∧ ∃ e, es[i]? = some e ∧ obind (loadV ti e off) fun v => K (v, [])
      | _ => False
    | _, _ => False
  | .binOp op t x y pt => if isConst y = true then obind (opF tt nk (.binOp op t x y pt) μ get) K else match op with
    | .quo => fV (μ x) fun vx => fV (μ y) fun vy => match vx, vy with
      | .lit (.int k a), .lit (.int k' b) => (k = k' ∧ b ≠ 0) ∧ K (.lit (.int k (k.wrap (a.tdiv b))), [])
      | _, _ => False
    | .rem => fV (μ x) fun vx => fV (μ y) fun vy => match vx, vy with
      | .lit (.int k a), .lit (.int k' b) => (k = k' ∧ b ≠ 0) ∧ K (.lit (.int k (a.tmod b)), [])
      | _, _ => False
    | .shl => fV (μ x) fun vx => fV (μ y) fun vy => match vx, vy with
      | .lit (.int k a), .lit (.int _ b) => 0 ≤ b ∧ K (.lit (.int k (k.wrap (a * 2 ^ min b.toNat k.bits))), [])
      | _, _ => False
    | .shr => fV (μ x) fun vx => fV (μ y) fun vy => match vx, vy with
      | .lit (.int k a), .lit (.int _ b) => 0 ≤ b ∧ K (.lit (.int k (a.fdiv (2 ^ min b.toNat k.bits))), [])
      | _, _ => False
    | op => obind (opF tt nk (.binOp op t x y pt) μ get) K
  | .slice t x lo hi mx => fV (μ x) fun vx => match tt t, vx with
    | some ⟨.slice e, _, _, _⟩, .is n es => match tt e with
      | some ti => if (isAbsent (lo.map μ) && isZero (mx.map μ) && isZero (hi.map μ)) = true then K (.e0, []) else ti.size = n ∧ sliceC es.length (lo.map μ) (hi.map μ) (mx.map μ) fun a b => ∀ es', es' = (es.drop a).take (b - a) → K (.is n es', [])
      | none => False
    | some ⟨.slice e, _, _, _⟩, .ls k n i len => match tt e with
      | some ti => if (isAbsent (lo.map μ) && isZero (mx.map μ) && isZero (hi.map μ)) = true then K (.e0, []) else ti.size = n ∧ sliceC len (lo.map μ) (hi.map μ) (mx.map μ) fun a b => K (.ls k n (i + a) (b - a), [])
      | none => False
    | _, _ => obind (opF tt nk (.slice t x lo hi mx) μ get) K
  | .store t a x => fV (μ a) fun va => fV (μ x) fun vx => storeC FK tt get t va vx fun u => K (.un, u)
  | .pick c a b => fV (μ c) fun vc => match vc with
    | .lit (.bool c) => pif c (K (μ a, [])) (K (μ b, []))
    | _ => False
  | .buildSlice t len parts => if (parts.toList.map fun p => (p.1, μ p.2)).any (fun p => isLs p.2) = true then (match tt t with
    | some ⟨.slice e, _, _, _⟩ => match tt e with
      | some ei => (0 < ei.size ∧ len * ei.size ≤ 16777216 ∧ get nk = none) ∧ putQ FK ei.size get (List.replicate len ei.zeroV) (parts.toList.map fun p => (p.1, μ p.2)) fun r => K (.ls nk ei.size 0 len, r.2 ++ [(nk, .arr true ei.size r.1)])
      | none => False
    | _ => False) else obind (opF tt nk (.buildSlice t len parts) μ get) K
  | .makeSlice t l c => if flagOf FK nk = true then obind (opF tt nk (.makeSlice t l c) μ get) K else match tt t with
    | some ⟨.slice e, _, _, _⟩ => match tt e with
      | some ei => fV (μ l) fun vl => fV (μ c) fun vc => match vl, vc with
        | .lit (.int _ l), .lit (.int _ c) => (0 < ei.size ∧ get nk = none ∧ 0 ≤ l ∧ l ≤ c ∧ c ≤ 140737488351232 ∧ c * ei.bytes ≤ 281474976710656) ∧ K (.ls nk ei.size 0 l.toNat, [(nk, .arr (kfT ei.td) ei.size (List.replicate l.toNat ei.zeroV))])
        | _, _ => False
      | none => False
    | _ => False
  | .convert src dst x => if bytesStr tt src dst = true then fV (μ x) fun vx => srcC FK get 1 false vx fun es => ∃ ns : List Int, es = ns.map encU ∧ K (.lit (.string (strOfNums ns)), []) else obind (opF tt nk (.convert src dst x) μ get) K
  | .call { callee := .builtin .append, args, argTypes } => match argTypes.toList, args.toList with
    | [t, tx], [s, x] => if isIntT tt tx = true then (match tt t with
      | some ⟨.slice e, _, _, _⟩ => match tt e with
        | some ei => fV (μ s) fun vs => fV (μ x) fun vx => match vx with
          | .lit (.int _ n) => (0 ≤ n ∧ roomOk n.toNat ei.bytes) ∧ ∀ xs, xs = List.replicate n.toNat ei.zeroV → appC FK ei nk get xs vs .un K
          | _ => False
        | none => False
      | _ => False) else match tt t with
      | some ⟨.slice e, _, _, _⟩ => match tt e, srcKind tt tx with
        | some ei, some stb => fV (μ s) fun vs => fV (μ x) fun vx => srcC FK get ei.size stb vx fun xs => appC FK ei nk get xs vs vx K
        | _, _ => False
      | _ => False
    | _, _ => False
  | .call { callee := .builtin .copy, args, argTypes } => match argTypes.toList, args.toList with
    | [t, tx], [s, x] => match tt t with
      | some ⟨.slice e, _, _, _⟩ => match tt e, srcKind tt tx with
        | some ei, some false => ei.size ≠ 0 ∧ fV (μ s) fun vs => fV (μ x) fun vx => srcC FK get ei.size false vx fun xs => copyC FK ei get xs vs K
        | _, _ => False
      | _ => False
    | _, _ => False
  | op => obind (opF tt nk op μ get) K

theorem opC_sound {FK : List (Key × Bool)} {tt : TT} {nk : Key} {op : Op} {μ : Operand → V} {get : Store} {K : V × List (Key × Obj) → Prop} (h : opC FK tt nk op μ get K) : obind (opF tt nk op μ get) K := by
  rw [obind_iff]
  cases op
  case buildSlice t len parts =>
    simp only [opC] at h
    split at h
    · split at h <;> try exact h.elim
      rename_i e1
      split at h <;> try exact h.elim
      rename_i e2
      obtain ⟨⟨es, us⟩, h1, h2⟩ := putQ_sound h.2
      exact ⟨_, by simp only [opF, buildSliceF, e1, e2]; rw [if_pos h.1]; simp only [h1], h2⟩
    · exact obind_ex h
  case build t parts =>
    simp only [opC] at h
    split at h <;> try exact h.elim
    rename_i ti e1
    split at h <;> try exact h.elim
    rename_i fs e2
    rw [bif'_iff, fL_eq] at h
    obtain ⟨out, h1, h2⟩ := fillQ_sound h.2
    exact ⟨_, by simp only [opF, pureF, e1, e2]; rw [if_pos h.1, h1]; rfl, h2⟩
  case indexAddr t x ix =>
    simp only [opC, fV_eq] at h
    split at h <;> try exact h.elim
    rename_i e _ _ _ e1
    split at h <;> try exact h.elim
    rename_i ei e2
    split at h <;> try exact h.elim
    · rename_i e3 e4
      exact ⟨_, by simp only [opF, pureF, e1, e2, e3, e4]; rw [if_pos h.1]; rfl, h.2⟩
    · rename_i e3 e4
      exact ⟨_, by simp only [opF, pureF, e1, e2, e3, e4]; rw [if_pos h.1]; rfl, h.2⟩
  case load t a =>
    simp only [opC, fV_eq] at h
    split at h <;> try exact h.elim
    · rename_i ti n es i off e1 e2
      obtain ⟨e, h1, h2⟩ := h
      rw [obind_iff] at h2
      obtain ⟨v, h2, h3⟩ := h2
      exact ⟨_, by simp only [opF, pureF, e1, e2, isLp, h1, h2]; rfl, h3⟩
    · rename_i ti k n i off e1 e2
      split at h
      · rw [obind_iff] at h; exact h
      split at h
      · obtain ⟨es, e3, e, h1, h2⟩ := h
        rw [obind_iff] at h2
        obtain ⟨v, h2, h3⟩ := h2
        exact ⟨_, by simp only [opF, loadF, e1, e2, e3, isLp, h1, h2]; rfl, h3⟩
      · split at h <;> try exact h.elim
        all_goals
          rename_i e3
          obtain ⟨rfl, e, h1, h2⟩ := h
          rw [obind_iff] at h2
          obtain ⟨v, h2, h3⟩ := h2
          exact ⟨_, by simp only [opF, loadF, e1, e2, e3, isLp, h1, h2]; rfl, h3⟩
  case binOp op t x y pt =>
    simp only [opC, fV_eq] at h
    split at h
    · rw [obind_iff] at h; exact h
    · split at h
      all_goals first
        | (rw [obind_iff] at h; exact h)
        | (split at h <;> try exact h.elim
           rename_i e1 e2
           first
             | (obtain ⟨⟨rfl, h1⟩, h2⟩ := h
                exact ⟨_, by simp only [opF, pureF, binV, e1, e2, isShift, intBinV, h1]; rfl, h2⟩)
             | (obtain ⟨h1, h2⟩ := h
                exact ⟨_, by simp only [opF, pureF, binV, e1, e2, isShift, shiftV, h1]; rfl, h2⟩))
  case slice t x lo hi mx =>
    simp only [opC, fV_eq] at h
    split at h
    · rename_i e1 e2
      split at h <;> try exact h.elim
      rename_i ti e3
      split at h
      · rename_i hc
        exact ⟨_, by simp only [opF, pureF, sliceV, e1, e2, e3]; rw [if_pos hc]; rfl, h⟩
      · rename_i hc
        obtain ⟨h1, h2⟩ := h
        obtain ⟨b, h3, h4⟩ := sliceC_sound h2
        exact ⟨_, by simp only [opF, pureF, sliceV, e1, e2, e3]; rw [if_neg hc, if_pos h1, h3]; rfl, h4 _ rfl⟩
    · rename_i e1 e2
      split at h <;> try exact h.elim
      rename_i ti e3
      split at h
      · rename_i hc
        exact ⟨_, by simp only [opF, pureF, sliceV, e1, e2, e3]; rw [if_pos hc]; rfl, h⟩
      · rename_i hc
        obtain ⟨h1, h2⟩ := h
        obtain ⟨b, h3, h4⟩ := sliceC_sound h2
        exact ⟨_, by simp only [opF, pureF, sliceV, e1, e2, e3]; rw [if_neg hc, if_pos h1, h3]; rfl, h4⟩
    · rw [obind_iff] at h; exact h
  case store t a x =>
    simp only [opC, fV_eq] at h
    obtain ⟨u, h1, h2⟩ := storeC_sound h
    exact ⟨_, by simp only [opF, h1]; rfl, h2⟩
  case pick c a b =>
    simp only [opC, fV_eq] at h
    split at h <;> try exact h.elim
    rename_i v e1
    cases v with
    | true => exact ⟨_, by simp only [opF, pureF, e1]; rfl, h⟩
    | false => exact ⟨_, by simp only [opF, pureF, e1]; rfl, h⟩
  case makeSlice t l c =>
    simp only [opC, fV_eq] at h
    split at h
    · exact obind_ex h
    · split at h <;> try exact h.elim
      rename_i e1
      split at h <;> try exact h.elim
      rename_i e2
      split at h <;> try exact h.elim
      rename_i e3 e4
      exact ⟨_, by simp only [opF, makeSliceF, e1, e2, e3, e4]; rw [if_pos h.1], h.2⟩
  case convert src dst x =>
    simp only [opC, fV_eq] at h
    split at h
    · rename_i hb
      obtain ⟨es, h1, ns, h2, h3⟩ := srcC_sound h
      exact ⟨_, by simp only [opF]; rw [if_pos hb]; simp only [bytesF, h1, h2, numsOf_map]; rfl, h3⟩
    · rw [obind_iff] at h; exact h
  case call c =>
    obtain ⟨callee, args, argTypes⟩ := c
    cases callee
    case builtin b =>
      cases b
      case append =>
        simp only [opC, fV_eq] at h
        split at h <;> try exact h.elim
        rename_i e1 e2
        split at h
        · rename_i hi
          split at h <;> try exact h.elim
          rename_i e3
          split at h <;> try exact h.elim
          rename_i e4
          split at h <;> try exact h.elim
          rename_i e5
          obtain ⟨r, h3, h4⟩ := appC_sound (h.2 _ rfl)
          exact ⟨r, by simp only [opF, e1, e2]; rw [if_pos hi]; simp only [appMakeF, e3, e4, e5]; rw [if_pos h.1, h3], h4⟩
        rename_i hi
        split at h <;> try exact h.elim
        rename_i e3
        split at h <;> try exact h.elim
        rename_i e4 e5
        obtain ⟨xs, h1, h2⟩ := srcC_sound h
        obtain ⟨r, h3, h4⟩ := appC_sound h2
        exact ⟨r, by simp only [opF, e1, e2]; rw [if_neg hi]; simp only [appendF, e3, e4, e5, h1, h3], h4⟩
      case copy =>
        simp only [opC, fV_eq] at h
        split at h <;> try exact h.elim
        rename_i e1 e2
        split at h <;> try exact h.elim
        rename_i e3
        split at h <;> try exact h.elim
        rename_i e4 e5
        obtain ⟨h0, h⟩ := h
        obtain ⟨xs, h1, h2⟩ := srcC_sound h
        obtain ⟨r, h3, h4⟩ := copyC_sound h2
        exact ⟨r, by simp only [opF, e1, e2, copyG, e3, e4, e5]; rw [if_neg h0]; simp only [h1, h3], h4⟩
      all_goals
        simp only [opC] at h
        rw [obind_iff] at h; exact h
    all_goals
      simp only [opC] at h
      rw [obind_iff] at h; exact h
  all_goals
    simp only [opC] at h
    rw [obind_iff] at h; exact h

def gifF : Option Bool → Prop → Prop → Prop
  | some true, a, _ => a
  | some false, _, b => b
  | none, _, _ => False

theorem gifF_gif {g : Option Bool} {a b : Prop} (h : gifF g a b) : gif g a b := by
  unfold gifF at h
  split at h
  · exact h
  · exact h
  · exact h.elim

theorem gifF_mono {g : Option Bool} {a b a' b' : Prop} (ha : a → a') (hb : b → b') (h : gifF g a b) : gifF g a' b' := by
  unfold gifF at h ⊢
  split at h
  · exact ha h
  · exact hb h
  · exact h.elim

theorem gif_bool {c : Bool} {a b : Prop} (ha : c = true → a) (hb : c = false → b) : gifF (some c) a b := by
  cases c
  · exact hb rfl
  · exact ha rfl

/-- A decision on a bool: asked for unless it is plain. -/
def bF (b : Bool) (t f : Prop) : Prop :=
  match b with
  | true => t
  | false => f
theorem bF_dec {c : Prop} [Decidable c] {a b : Prop} (ha : c → a) (hb : ¬ c → b) : bF (decide c) a b := by
  by_cases h : c
  · simp only [h, decide_true]; exact ha h
  · simp only [h, decide_false]; exact hb h
theorem bF_eq {α : Type} [BEq α] [LawfulBEq α] {x y : α} {a b : Prop} (ha : x = y → a) (hb : x ≠ y → b) : bF (x == y) a b := by
  cases h : x == y
  · exact hb fun e => by rw [e, beq_self_eq_true] at h; cases h
  · exact ha (eq_of_beq h)
theorem bF_ne {α : Type} [BEq α] [LawfulBEq α] {x y : α} {a b : Prop} (ha : x ≠ y → a) (hb : x = y → b) : bF (x != y) a b := by
  cases h : x == y
  · simp only [bne, h]; exact ha fun e => by rw [e, beq_self_eq_true] at h; cases h
  · simp only [bne, h]; exact hb (eq_of_beq h)
theorem bF_bool {c : Bool} {a b : Prop} (ha : c = true → a) (hb : c = false → b) : bF c a b := by
  cases c
  · exact hb rfl
  · exact ha rfl
/-- A first row ((998, ..), ..) asks at each comparison; ((997, ..), ..) at each number, too. -/
def askB : List (Key × Bool) → Bool
  | ((a, _), _) :: _ => Nat.beq a 998 || Nat.beq a 997
  | [] => false
def boolK (K : V × List (Key × Obj) → Prop) : V × List (Key × Obj) → Prop
  | (.lit (.bool b), l) => bF b (K (.lit (.bool true), l)) (K (.lit (.bool false), l))
  | p => K p
def numK (K : V × List (Key × Obj) → Prop) : V × List (Key × Obj) → Prop
  | (.lit (.int k x), l) => ∀ r, r = x → K (.lit (.int k r), l)
  | p => K p
theorem boolK_le {K : V × List (Key × Obj) → Prop} (r : V × List (Key × Obj)) (h : boolK K r) : K r := by
  unfold boolK at h
  split at h
  · rename_i b l
    cases b <;> exact h
  · exact h
theorem boolK_mono {K K' : V × List (Key × Obj) → Prop} (hk : ∀ r, K r → K' r) (r : V × List (Key × Obj)) (h : boolK K r) : boolK K' r := by
  unfold boolK at h ⊢
  split at h
  · rename_i b l
    cases b <;> exact hk _ h
  · exact hk _ h
theorem numK_le {K : V × List (Key × Obj) → Prop} (r : V × List (Key × Obj)) (h : numK K r) : K r := by
  unfold numK at h
  split at h
  · exact h _ rfl
  · exact h
theorem numK_mono {K K' : V × List (Key × Obj) → Prop} (hk : ∀ r, K r → K' r) (r : V × List (Key × Obj)) (h : numK K r) : numK K' r := by
  unfold numK at h ⊢
  split at h
  · exact fun x hx => hk _ (h x hx)
  · exact hk _ h
def isBin : Op → Bool
  | .binOp _ _ _ _ _ => true
  | _ => false
def isNum : Op → Bool
  | .convert .. => true
  | .unOp .. => true
  | .call { callee := .builtin .len, .. } => true
  | .call { callee := .builtin .min, .. } => true
  | .call { callee := .builtin .max, .. } => true
  | _ => false
def bKK (b i : Bool) (K : V × List (Key × Obj) → Prop) : V × List (Key × Obj) → Prop :=
  match i with
  | true => match b with
    | true => boolK (numK K)
    | false => numK K
  | false => match b with
    | true => boolK K
    | false => K
theorem bKK_le {b i : Bool} {K : V × List (Key × Obj) → Prop} (r : V × List (Key × Obj)) (h : bKK b i K r) : K r := by
  cases i <;> cases b
  · exact h
  · exact boolK_le r h
  · exact numK_le r h
  · exact numK_le r (boolK_le r h)
theorem bKK_mono {b i : Bool} {K K' : V × List (Key × Obj) → Prop} (hk : ∀ r, K r → K' r) (r : V × List (Key × Obj)) (h : bKK b i K r) : bKK b i K' r := by
  cases i <;> cases b
  · exact hk _ h
  · exact boolK_mono hk r h
  · exact numK_mono hk r h
  · exact boolK_mono (fun r hr => numK_mono hk r hr) r h
def bK (FK : List (Key × Bool)) (op : Op) (K : V × List (Key × Obj) → Prop) : V × List (Key × Obj) → Prop := bKK (askB FK && isBin op) (askI FK && (isBin op || isNum op)) K
theorem bK_le {FK : List (Key × Bool)} {op : Op} {K : V × List (Key × Obj) → Prop} (r : V × List (Key × Obj)) (h : bK FK op K r) : K r := bKK_le r h
theorem bK_mono {FK : List (Key × Bool)} {op : Op} {K K' : V × List (Key × Obj) → Prop} (hk : ∀ r, K r → K' r) (r : V × List (Key × Obj)) (h : bK FK op K r) : bK FK op K' r := bKK_mono hk r h
/-- A number is what it says, where it is in range. -/
theorem a64 {x : Int} {K : Int → Prop} (h : -9223372036854775808 ≤ x ∧ x ≤ 9223372036854775807) (k : K x) : ∀ r, r = IntKind.i64.wrap x → K r := by
  intro r hr
  have : IntKind.i64.wrap x = x := by
    simp only [IntKind.wrap, IntKind.signed, IntKind.bits]
    simp
    omega
  rw [hr, this]; exact k
theorem au64 {x : Int} {K : Int → Prop} (h : 0 ≤ x ∧ x ≤ 18446744073709551615) (k : K x) : ∀ r, r = IntKind.u64.wrap x → K r := by
  intro r hr
  have : IntKind.u64.wrap x = x := by
    simp only [IntKind.wrap, IntKind.signed, IntKind.bits]
    simp
    omega
  rw [hr, this]; exact k
theorem au8 {x : Int} {K : Int → Prop} (k : K (x % 256)) : ∀ r, r = IntKind.u8.wrap x → K r := by
  intro r hr
  have : IntKind.u8.wrap x = x % 256 := by
    simp only [IntKind.wrap, IntKind.signed, IntKind.bits]
    simp
  rw [hr, this]; exact k
/-- Rest and quotient of what is not below 0. -/
theorem arem {x y : Int} {K : Int → Prop} (h : 0 ≤ x) (k : K (x % y)) : ∀ r, r = x.tmod y → K r := by
  intro r hr
  rw [hr, Int.tmod_eq_emod_of_nonneg h]; exact k
theorem aquo {x y : Int} {K : Int → Prop} (h : 0 ≤ x ∧ x ≤ 9223372036854775807) (hy : 0 < y) (k : K (x / y)) : ∀ r, r = IntKind.i64.wrap (x.tdiv y) → K r := by
  refine a64 (by
    rw [Int.tdiv_eq_ediv_of_nonneg h.1]
    have h1 := Int.ediv_nonneg h.1 (Int.le_of_lt hy)
    have h2 := Int.ediv_le_self y h.1
    omega) ?_
  rw [Int.tdiv_eq_ediv_of_nonneg h.1]; exact k
theorem alen {α : Type} {f : α → V} {l : List α} {K : Int → Prop} (k : K l.length) : ∀ r, r = (((l.map f).length : Nat) : Int) → K r := by
  intro r hr
  rw [hr, List.length_map]; exact k
theorem amin {x y : Int} {K : Int → Prop} (k : K (min x y)) : ∀ r, r = (if y < x then y else x) → K r := by
  intro r hr
  have : (if y < x then y else x) = min x y := by rw [Int.min_def]; split <;> split <;> omega
  rw [hr, this]; exact k
theorem amax {x y : Int} {K : Int → Prop} (k : K (max x y)) : ∀ r, r = (if y > x then y else x) → K r := by
  intro r hr
  have : (if y > x then y else x) = max x y := by rw [Int.max_def]; split <;> split <;> omega
  rw [hr, this]; exact k
theorem aid {x : Int} {K : Int → Prop} (k : K x) : ∀ r, r = x → K r := fun _ hr => hr ▸ k

def moveC (FK : List (Key × Bool)) (tt : TT) (ops : Array Oper) (o : Oper) (st : St) (K : V × List (Key × Obj) → Prop) : Prop :=
  gifF (gdec ops st.tm o) (opC FK tt (nkO o) o.op (ev st.tm) st.ob (bK FK o.op K)) (K (.lit undef, []))

theorem moveC_sound {FK : List (Key × Bool)} {tt : TT} {ops : Array Oper} {o : Oper} {st : St} {K : V × List (Key × Obj) → Prop} (h : moveC FK tt ops o st K) : obind (moveF tt ops o st) K := by
  unfold moveC at h
  unfold moveF
  cases g : gdec ops st.tm o with
  | none => rw [g] at h; exact h.elim
  | some b =>
    rw [g] at h
    cases b with
    | false => exact h
    | true =>
      simp only [gifF] at h
      simp only [if_true]
      have := opC_sound h
      rw [obind_iff] at this ⊢
      obtain ⟨r, h1, h2⟩ := this
      exact ⟨r, h1, bK_le r h2⟩

def stepF (FK : List (Key × Bool)) (P : Program) (tt : TT) (A : Ann) (ops : Array Oper) (o : Oper) (st : St) (K : St → Prop) : Prop :=
  match isCallO o with
  | true => match st with
    | ⟨tm, ob⟩ => gifF (gdec ops tm o) (callStepF FK P A o ⟨tm, ob⟩ K) (putV FK tm ob o.dst (.lit undef) K)
  | false => moveC FK tt ops o st fun r => appF FK st o r K

theorem stepF_step {FK : List (Key × Bool)} {P : Program} {tt : TT} {A : Ann} {ops : Array Oper} {o : Oper} {st : St} {K : St → Prop} (h : stepF FK P tt A ops o st K) : step P tt A ops o st K := by
  unfold stepF at h
  unfold step
  cases e : isCallO o with
  | true =>
    simp only [e, putV_eq] at h
    rw [if_pos rfl]
    have h := gifF_gif h
    unfold gif at h ⊢
    split at h
    · exact h.elim
    · split at h
      · rename_i hc; rw [if_pos hc]; exact callStepF_sound h
      · rename_i hc; rw [if_neg hc]; exact h
  | false => simp only [e, appF_eq] at h; rw [if_neg (by simp)]; exact moveC_sound h

theorem sliceC_mono {len : Nat} {lo hi mx : Option V} {K K' : Nat → Nat → Prop} (hk : ∀ a b, K a b → K' a b) (h : sliceC len lo hi mx K) : sliceC len lo hi mx K' := by
  unfold sliceC at h ⊢
  simp only [fV_eq] at h ⊢
  split at h
  · exact h
  · split at h
    · split at h
      · split at h
        · split at h
          · exact ⟨h.1, hk _ _ h.2⟩
          · exact h
        · exact ⟨h.1, hk _ _ h.2⟩
      · exact h
    · split at h
      · split at h
        · exact ⟨h.1, hk _ _ h.2⟩
        · exact h
      · exact hk _ _ h

theorem opC_mono {FK : List (Key × Bool)} {tt : TT} {nk : Key} {op : Op} {μ : Operand → V} {get : Store} {K K' : V × List (Key × Obj) → Prop} (hk : ∀ r, K r → K' r) (h : opC FK tt nk op μ get K) : opC FK tt nk op μ get K' := by
  cases op
  case buildSlice t len parts =>
    simp only [opC] at h ⊢
    split at h
    · rename_i hc; rw [if_pos hc]
      split at h <;> try exact h.elim
      split at h <;> try exact h.elim
      exact ⟨h.1, putQ_mono (fun r hr => hk _ hr) h.2⟩
    · rename_i hc; rw [if_neg hc]; exact obind_mono hk h
  case build t parts =>
    simp only [opC] at h ⊢
    split at h <;> try exact h.elim
    split at h <;> try exact h.elim
    rw [bif'_iff, fL_eq] at h ⊢
    exact ⟨h.1, fillQ_mono (fun out ho => hk _ ho) h.2⟩
  case indexAddr t x ix =>
    simp only [opC, fV_eq] at h ⊢
    split at h <;> try exact h.elim
    split at h <;> try exact h.elim
    split at h <;> try exact h.elim
    all_goals exact ⟨h.1, hk _ h.2⟩
  case load t a =>
    simp only [opC, fV_eq] at h ⊢
    split at h <;> try exact h.elim
    · obtain ⟨e, h1, h2⟩ := h
      exact ⟨e, h1, obind_mono (fun v hv => hk _ hv) h2⟩
    · split at h
      · rename_i hc; rw [if_pos hc]; exact obind_mono hk h
      rename_i hc
      rw [if_neg hc]
      split at h
      · rename_i hc; rw [if_pos hc]
        obtain ⟨es, h0, e, h1, h2⟩ := h
        exact ⟨es, h0, e, h1, obind_mono (fun v hv => hk _ hv) h2⟩
      · rename_i hc
        rw [if_neg hc]
        split at h <;> try exact h.elim
        all_goals
          obtain ⟨h0, e, h1, h2⟩ := h
          exact ⟨h0, e, h1, obind_mono (fun v hv => hk _ hv) h2⟩
  case binOp op t x y pt =>
    simp only [opC, fV_eq] at h ⊢
    split at h
    · rename_i hc; rw [if_pos hc]; exact obind_mono hk h
    · rename_i hc
      rw [if_neg hc]
      split at h
      all_goals first
        | exact obind_mono hk h
        | (split at h <;> try exact h.elim
           exact ⟨h.1, hk _ h.2⟩)
  case slice t x lo hi mx =>
    simp only [opC, fV_eq] at h ⊢
    split at h
    · split at h <;> try exact h.elim
      split at h
      · rename_i hc; rw [if_pos hc]; exact hk _ h
      · rename_i hc; rw [if_neg hc]; exact ⟨h.1, sliceC_mono (fun a b hv es' he => hk _ (hv es' he)) h.2⟩
    · split at h <;> try exact h.elim
      split at h
      · rename_i hc; rw [if_pos hc]; exact hk _ h
      · rename_i hc; rw [if_neg hc]; exact ⟨h.1, sliceC_mono (fun a b hv => hk _ hv) h.2⟩
    · exact obind_mono hk h
  case store t a x =>
    simp only [opC, fV_eq] at h ⊢
    exact storeC_mono (fun u hu => hk _ hu) h
  case pick c a b =>
    simp only [opC, fV_eq] at h ⊢
    split at h <;> try exact h.elim
    rename_i v e1
    cases v with
    | true => exact hk _ h
    | false => exact hk _ h
  case makeSlice t l c =>
    simp only [opC, fV_eq] at h ⊢
    split at h
    · rename_i hc; rw [if_pos hc]; exact obind_mono hk h
    · rename_i hc
      rw [if_neg hc]
      split at h <;> try exact h.elim
      split at h <;> try exact h.elim
      split at h <;> try exact h.elim
      exact ⟨h.1, hk _ h.2⟩
  case convert src dst x =>
    simp only [opC, fV_eq] at h ⊢
    split at h
    · rename_i hc; rw [if_pos hc]; exact srcC_mono (fun es ⟨ns, h1, h2⟩ => ⟨ns, h1, hk _ h2⟩) h
    · rename_i hc; rw [if_neg hc]; exact obind_mono hk h
  case call c =>
    obtain ⟨callee, args, argTypes⟩ := c
    cases callee
    case builtin b =>
      cases b
      case append =>
        simp only [opC, fV_eq] at h ⊢
        split at h <;> try exact h.elim
        split at h
        · rename_i hi; rw [if_pos hi]
          split at h <;> try exact h.elim
          split at h <;> try exact h.elim
          split at h <;> try exact h.elim
          exact ⟨h.1, fun xs hx => appC_mono hk (h.2 xs hx)⟩
        rename_i hi; rw [if_neg hi]
        split at h <;> try exact h.elim
        split at h <;> try exact h.elim
        exact srcC_mono (fun xs hx => appC_mono hk hx) h
      case copy =>
        simp only [opC, fV_eq] at h ⊢
        split at h <;> try exact h.elim
        split at h <;> try exact h.elim
        split at h <;> try exact h.elim
        exact ⟨h.1, srcC_mono (fun xs hx => copyC_mono hk hx) h.2⟩
      all_goals
        simp only [opC] at h ⊢
        exact obind_mono hk h
    all_goals
      simp only [opC] at h ⊢
      exact obind_mono hk h
  all_goals
    simp only [opC] at h ⊢
    exact obind_mono hk h

theorem stepF_mono {FK : List (Key × Bool)} {P : Program} {tt : TT} {A : Ann} {ops : Array Oper} {o : Oper} {st : St} {K K' : St → Prop} (h : stepF FK P tt A ops o st K) (hk : ∀ s, K s → K' s) : stepF FK P tt A ops o st K' := by
  unfold stepF at h ⊢
  cases e : isCallO o with
  | true => simp only [e, putV_eq] at h ⊢; exact gifF_mono (fun h => callStepF_mono h hk) (hk _) h
  | false =>
    simp only [e, appF_eq, moveC] at h ⊢
    exact gifF_mono (opC_mono fun r hr => bK_mono (fun r hr => hk _ hr) r hr) (hk _) h

section
variable {P : Program} {tt : TT} {A : Ann} {FK : List (Key × Bool)}

def seqF (P : Program) (tt : TT) (A : Ann) (FK : List (Key × Bool)) (ops : Array Oper) : List Nat → St → (St → Prop) → Prop
  | [], st, K => K st
  | i :: is, st, K => match ops[i]? with
    | none => False
    | some o => stepF FK P tt A ops o st fun st' => seqF P tt A FK ops is st' K

theorem seqF_sound (ops : Array Oper) : ∀ (is : List Nat) (st : St) (K : St → Prop), seqF P tt A FK ops is st K → seqOps P tt A ops is st K
  | [], _, _, h => h
  | i :: is, st, K, h => by
    unfold seqF at h
    unfold seqOps
    split at h
    · exact h.elim
    · rename_i e; simp only [e]; exact step_mono (stepF_step h) fun s hs => seqF_sound ops is s K hs

def logOk (ops : Array Oper) (anc : List Nat) : List Ent → List Ent → Bool
  | _, [] => true
  | log, e :: es => (match ops[e.i]? with
    | none => false
    | some o => chk anc o e.i e.T e.W log) && logOk ops anc (log ++ [e]) es

theorem logOk_append (ops : Array Oper) (anc : List Nat) : ∀ (es fs log : List Ent), logOk ops anc log (es ++ fs) = (logOk ops anc log es && logOk ops anc (log ++ es) fs)
  | [], fs, log => by simp [logOk]
  | e :: es, fs, log => by simp [logOk, logOk_append ops anc es fs, Bool.and_assoc]

/-- The operations in the plan's order. What each looks at and changes is looked over at each call and at the end. -/
def planF (P : Program) (tt : TT) (A : Ann) (FK : List (Key × Bool)) (ops : Array Oper) (anc : List Nat) : List Nat → List Ent → St → (St → Prop) → Prop
  | [], log, st, K => logOk ops anc [] log.reverse = true ∧ K st
  | i :: is, log, st, K => match ops[i]? with
    | none => False
    | some o => if isCallO o = true then logOk ops anc [] (⟨i, (TW A o st).1, (TW A o st).2⟩ :: log).reverse = true ∧ stepF FK P tt A ops o st fun st' => planF P tt A FK ops anc is (⟨i, (TW A o st).1, (TW A o st).2⟩ :: log) st' K
      else stepF FK P tt A ops o st fun st' => planF P tt A FK ops anc is (⟨i, (TW A o st).1, (TW A o st).2⟩ :: log) st' K

theorem planF_log (ops : Array Oper) (anc : List Nat) : ∀ (is : List Nat) (log : List Ent) (st : St) (K : St → Prop),
    planF P tt A FK ops anc is log st K → logOk ops anc [] log.reverse = true := by
  intro is
  induction is with
  | nil => intro log st K h; exact h.1
  | cons i is ih =>
    intro log st K h
    unfold planF at h
    split at h
    · exact h.elim
    · rename_i o ho
      have key : ∀ e, logOk ops anc [] (e :: log).reverse = true → logOk ops anc [] log.reverse = true := by
        intro e he
        rw [List.reverse_cons, logOk_append] at he
        exact (Bool.and_eq_true_iff.1 he).1
      split at h
      · exact key _ h.1
      · rename_i hc
        have h := stepF_step h
        unfold step at h
        rw [if_neg hc, obind_iff] at h
        obtain ⟨r, _, h⟩ := h
        exact key _ (ih _ _ _ h)

theorem planF_sound (ops : Array Oper) (anc : List Nat) : ∀ (is : List Nat) (log : List Ent) (st : St) (K : St → Prop),
    planF P tt A FK ops anc is log st K → planOps P tt A ops anc is log.reverse st K := by
  intro is
  induction is with
  | nil => intro log st K h; exact h.2
  | cons i is ih =>
    intro log st K h
    unfold planF at h
    unfold planOps
    split at h
    · exact h.elim
    · rename_i o ho
      simp only [ho]
      have key : ∀ T W, logOk ops anc [] (⟨i, T, W⟩ :: log).reverse = true → chk anc o i T W log.reverse = true := by
        intro T W he
        rw [List.reverse_cons, logOk_append] at he
        have h2 := (Bool.and_eq_true_iff.1 he).2
        simpa [logOk, ho] using h2
      split at h
      · refine ⟨key _ _ h.1, step_mono (stepF_step h.2) fun s hs => ?_⟩
        have := ih _ _ _ hs
        rwa [List.reverse_cons] at this
      · rename_i hc
        have hl : logOk ops anc [] ((⟨i, (TW A o st).1, (TW A o st).2⟩ : Ent) :: log).reverse = true := by
          have h := stepF_step h
          unfold step at h
          rw [if_neg hc, obind_iff] at h
          obtain ⟨r, _, h⟩ := h
          exact planF_log _ _ _ _ _ _ h
        refine ⟨key _ _ hl, step_mono (stepF_step h) fun s hs => ?_⟩
        have := ih _ _ _ hs
        rwa [List.reverse_cons] at this

theorem planF_mono (ops : Array Oper) (anc : List Nat) {K K' : St → Prop} (hk : ∀ s, K s → K' s) : ∀ (is : List Nat) (log : List Ent) (st : St),
    planF P tt A FK ops anc is log st K → planF P tt A FK ops anc is log st K' := by
  intro is
  induction is with
  | nil => intro log st h; exact ⟨h.1, hk _ h.2⟩
  | cons i is ih =>
    intro log st h
    unfold planF at h ⊢
    split at h
    · exact h.elim
    · rename_i o ho
      split at h
      · rename_i hc
        rw [if_pos hc]
        refine ⟨h.1, stepF_mono h.2 fun s hs => ?_⟩
        exact ih _ _ hs
      · rename_i hc
        rw [if_neg hc]
        refine stepF_mono h fun s hs => ?_
        exact ih _ _ hs

theorem seqF_mono (ops : Array Oper) {K K' : St → Prop} (hk : ∀ s, K s → K' s) : ∀ (is : List Nat) (st : St),
    seqF P tt A FK ops is st K → seqF P tt A FK ops is st K' := by
  intro is
  induction is with
  | nil => intro st h; exact hk _ h
  | cons i is ih =>
    intro st h
    unfold seqF at h ⊢
    split at h
    · exact h.elim
    · rename_i o ho
      refine stepF_mono h fun s hs => ?_
      exact ih _ hs

theorem vif_mono {v : V} {a b a' b' : Prop} (ha : a → a') (hb : b → b') (h : vif v a b) : vif v a' b' := by
  unfold vif at h ⊢
  split at h
  · split at h
    · rename_i hc; rw [if_pos hc]; exact ha h
    · rename_i hc; rw [if_neg hc]; exact hb h
  · exact h.elim

theorem rounds_mono {B B' : St → (Ex → St → Prop) → Prop} {sw : Store → List (Key × Key)} {L : List Nat} {KL : List Key} {Q Q' : Ex → St → Prop} (hQ : ∀ e s, Q e s → Q' e s)
    (hB : ∀ s R R', (∀ e s, R e s → R' e s) → B s R → B' s R') : ∀ (n : Nat) (st : St), rounds B sw L KL Q n st → rounds B' sw L KL Q' n st
  | 0, _, h => h.elim
  | n + 1, st, h => by
    refine hB st _ _ (fun e s hs => ?_) h
    cases e with
    | normal => exact ⟨hs.1, rounds_mono hQ hB n _ hs.2⟩
    | exit j => exact hQ _ _ hs
    | ret => exact hQ _ _ hs

def vifF : V → Prop → Prop → Prop
  | .lit (.bool true), a, _ => a
  | .lit (.bool false), _, b => b
  | _, _, _ => False

theorem vifF_vif {v : V} {a b : Prop} (h : vifF v a b) : vif v a b := by
  unfold vifF at h
  split at h
  · exact h
  · exact h
  · exact h.elim

theorem vifF_mono {v : V} {a b a' b' : Prop} (ha : a → a') (hb : b → b') (h : vifF v a b) : vifF v a' b' := by
  unfold vifF at h ⊢
  split at h
  · exact ha h
  · exact hb h
  · exact h.elim

theorem vif_dec {c : Prop} [Decidable c] {a b : Prop} (ha : c → a) (hb : ¬ c → b) : vifF (.lit (.bool (decide c))) a b := by
  by_cases h : c
  · simp only [h, decide_true]; exact ha h
  · simp only [h, decide_false]; exact hb h

theorem vif_bool {c : Bool} {a b : Prop} (ha : c = true → a) (hb : c = false → b) : vifF (.lit (.bool c)) a b := by
  cases c
  · exact hb rfl
  · exact ha rfl

theorem vif_not {c : Bool} {a b : Prop} (ha : c = false → a) (hb : c = true → b) : vifF (.lit (.bool (!c))) a b := by
  cases c
  · exact ha rfl
  · exact hb rfl

/-- Every drawn region has a good plan. -/
def codeOk : Code → Bool
  | .region _ ops true => planOk ops (ancTbl ops) (planOf ops)
  | .seq a b => codeOk a && codeOk b
  | .cond _ a b => codeOk a && codeOk b
  | .block _ b => codeOk b
  | .loop b => codeOk b
  | .scope b => codeOk b
  | _ => true

def cwF (P : Program) (tt : TT) (A : Ann) (FK : List (Key × Bool)) : Code → St → (Ex → St → Prop) → Prop
  | .skip, st, Q => Q .normal st
  | .label _, st, Q => Q .normal st
  | .region _ ops false, st, Q => seqF P tt A FK ops (List.range ops.size) st (Q .normal)
  | .region _ ops true, st, Q => planF P tt A FK ops (ancTbl ops) (planOf ops) [] st (Q .normal)
  | .seq a b, st, Q => cwF P tt A FK a st fun e s => match e with
    | .normal => cwF P tt A FK b s Q
    | e => Q e s
  | .cond x a b, st, Q => fV (ev st.tm x) fun v => vifF v (cwF P tt A FK a st Q) (cwF P tt A FK b st Q)
  | .block id b, st, Q => cwF P tt A FK b st fun e s => match e with
    | .exit j => if j = id then Q .normal s else Q (.exit j) s
    | e => Q e s
  | .loop b, st, Q => keepOk (A.keep (firstReg b)).2 (headSt (A.sw (firstReg b)) (A.keep (firstReg b)).1 (A.keep (firstReg b)).2 st) = true ∧
      ∃ n, rounds (cwF P tt A FK b) (A.sw (firstReg b)) (A.keep (firstReg b)).1 (A.keep (firstReg b)).2 Q n (headSt (A.sw (firstReg b)) (A.keep (firstReg b)).1 (A.keep (firstReg b)).2 st)
  | .scope b, st, Q => cwF P tt A FK b st Q
  | .exit id, st, Q => Q (.exit id) st
  | .ret, st, Q => Q .ret st
  | _, _, _ => False

/-- Into the machine before, with a weaker end. -/
theorem cwF_cw : ∀ (code : Code) (st : St) (Q Q' : Ex → St → Prop), codeOk code = true → (∀ e s, Q e s → Q' e s) → cwF P tt A FK code st Q → cw P tt A code st Q' := by
  intro code
  induction code with
  | skip => intro st Q Q' _ hQ h; exact hQ _ _ h
  | label l => intro st Q Q' _ hQ h; exact hQ _ _ h
  | region id ops draw =>
    intro st Q Q' ok hQ h
    cases draw with
    | false => simp only [cwF] at h; simp only [cw]; exact seqF_sound (FK := FK) _ _ _ _ (seqF_mono _ (hQ _) _ _ h)
    | true => simp only [cwF] at h; simp only [cw]; exact ⟨ok, planF_sound _ _ _ _ _ _ (planF_mono _ _ (hQ _) _ _ _ h)⟩
  | seq a b iha ihb =>
    intro st Q Q' ok hQ h
    simp only [codeOk, Bool.and_eq_true] at ok
    simp only [cwF] at h; simp only [cw]
    refine iha _ _ _ ok.1 (fun e s hs => ?_) h
    cases e with
    | normal => exact ihb _ _ _ ok.2 hQ hs
    | exit j => exact hQ _ _ hs
    | ret => exact hQ _ _ hs
  | cond x a b iha ihb =>
    intro st Q Q' ok hQ h
    simp only [codeOk, Bool.and_eq_true] at ok
    simp only [cwF, fV_eq] at h; simp only [cw]
    exact vif_mono (iha _ _ _ ok.1 hQ) (ihb _ _ _ ok.2 hQ) (vifF_vif h)
  | block id b ih =>
    intro st Q Q' ok hQ h
    simp only [cwF] at h; simp only [cw]
    refine ih _ _ _ ok (fun e s hs => ?_) h
    cases e with
    | normal => exact hQ _ _ hs
    | exit j =>
      simp only at hs ⊢
      split at hs
      · rename_i e; rw [if_pos e]; exact hQ _ _ hs
      · rename_i e; rw [if_neg e]; exact hQ _ _ hs
    | ret => exact hQ _ _ hs
  | loop b ih =>
    intro st Q Q' ok hQ h
    simp only [cwF] at h; simp only [cw]
    obtain ⟨h1, n, h2⟩ := h
    exact ⟨h1, n, rounds_mono (B' := cw P tt A b) hQ (fun s R R' hR hs => ih s R R' ok hR hs) n _ h2⟩
  | scope b ih => intro st Q Q' ok hQ h; simp only [cwF] at h; simp only [cw]; exact ih _ _ _ ok hQ h
  | exit id => intro st Q Q' _ hQ h; exact hQ _ _ h
  | ret => intro st Q Q' _ hQ h; exact hQ _ _ h
  | _ => intro st Q Q' _ hQ h; exact False.elim (by simp only [cwF] at h)

theorem cwF_mono : ∀ (code : Code) (st : St) (Q Q' : Ex → St → Prop), (∀ e s, Q e s → Q' e s) → cwF P tt A FK code st Q → cwF P tt A FK code st Q' := by
  intro code
  induction code with
  | skip => intro st Q Q' hQ h; exact hQ _ _ h
  | label l => intro st Q Q' hQ h; exact hQ _ _ h
  | region id ops draw =>
    intro st Q Q' hQ h
    cases draw with
    | false => simp only [cwF] at h ⊢; exact seqF_mono _ (hQ _) _ _ h
    | true => simp only [cwF] at h ⊢; exact planF_mono _ _ (hQ _) _ _ _ h
  | seq a b iha ihb =>
    intro st Q Q' hQ h
    simp only [cwF] at h ⊢
    refine iha _ _ _ (fun e s hs => ?_) h
    cases e with
    | normal => exact ihb _ _ _ hQ hs
    | exit j => exact hQ _ _ hs
    | ret => exact hQ _ _ hs
  | cond x a b iha ihb =>
    intro st Q Q' hQ h
    simp only [cwF, fV_eq] at h ⊢
    exact vifF_mono (iha _ _ _ hQ) (ihb _ _ _ hQ) h
  | block id b ih =>
    intro st Q Q' hQ h
    simp only [cwF] at h ⊢
    refine ih _ _ _ (fun e s hs => ?_) h
    cases e with
    | normal => exact hQ _ _ hs
    | exit j =>
      simp only at hs ⊢
      split at hs
      · rename_i e; rw [if_pos e]; exact hQ _ _ hs
      · rename_i e; rw [if_neg e]; exact hQ _ _ hs
    | ret => exact hQ _ _ hs
  | loop b ih =>
    intro st Q Q' hQ h
    simp only [cwF] at h ⊢
    obtain ⟨h1, n, h2⟩ := h
    exact ⟨h1, n, rounds_mono (B' := cwF P tt A FK b) hQ (fun s R R' hR hs => ih s R R' hR hs) n _ h2⟩
  | scope b ih => intro st Q Q' hQ h; simp only [cwF] at h ⊢; exact ih _ _ _ hQ h
  | exit id => intro st Q Q' hQ h; exact hQ _ _ h
  | ret => intro st Q Q' hQ h; exact hQ _ _ h
  | _ => intro st Q Q' hQ h; exact False.elim (by simp only [cwF] at h)

/-- A cut: what holds behind a piece of code, and the way on from there. -/
theorem cwF_cut {code : Code} {st : St} {Q : Ex → St → Prop} (M : Ex → St → Prop) (h : cwF P tt A FK code st M) (hM : ∀ e s, M e s → Q e s) : cwF P tt A FK code st Q := cwF_mono _ _ _ _ hM h

def pad (n : Nat) : List V → List V → List V
  | [], acc => acc.reverse ++ List.replicate n .un
  | v :: l, acc => pad (n - 1) l (v :: acc)

def retF (tt : TT) (rs : List ResultVar) (n : Nat) (K : V → List Obj → List Obj → Prop) : Ex → St → Prop
  | .exit _, _ => False
  | _, st => match retV tt rs st with
    | some v => fV v fun v => expKF st.ob n v fun L => match argC st.ob L v, objsC st.ob L L with
      | some v', some all => fV (v'.ren (expSig n)) fun v => fOs all fun all => fOs ((all.take n).map (Obj.ren (expSig n))) fun a => fOs ((all.drop n).map (Obj.ren (expSig n))) fun b => K v a b
      | _, _ => False
    | none => False

theorem retF_retQ {rs : List ResultVar} {n : Nat} {K : V → List Obj → List Obj → Prop} : ∀ e s, retF tt rs n K e s → retQ tt rs n K e s := by
  have key : ∀ s, retF tt rs n K .ret s → retQ tt rs n K .ret s := by
    intro s h
    simp only [retF] at h
    simp only [retQ]
    cases e0 : retV tt rs s with
    | none => simp only [e0] at h
    | some v =>
      simp only [e0, fV_eq, expKF_eq] at h
      simp only [exportK]
      cases e1 : argC s.ob (expKeys s.ob n v) v with
      | none => simp only [e1] at h
      | some v' =>
        cases e2 : objsC s.ob (expKeys s.ob n v) (expKeys s.ob n v) with
        | none => simp only [e1, e2] at h
        | some all =>
          simp only [e1, e2, fOs_eq] at h
          exact h
  intro e s h
  cases e with
  | exit j => exact h.elim
  | normal => exact key s h
  | ret => exact key s h

/-- A function does what the machine says of its code. -/
theorem ac_body (A : Ann) (FK : List (Key × Bool)) (hm : P.follows .mixedOrders = true) (htt : TTok P tt) {f : FuncId} {fn : Func} {code : Code} {m : Nat} {rs : List ResultVar} (hf : P.funcs[f]? = some fn) (hb : fn.body = some code)
    (hk : ((fn.name != "runtime.NumGoroutine") && codeOk code) = true) (hr : fn.results.toList = rs)
    {args : List V} {objs : List Obj} (hn : fn.ntmps - args.length = m) {K : V → List Obj → List Obj → Prop}
    (h : cwF P tt A FK code ⟨args ++ List.replicate m .un, argOb objs⟩ (retF tt rs objs.length K)) : AC P f args objs K := by
  subst hn; subst hr
  simp only [Bool.and_eq_true, bne_iff_ne, ne_eq] at hk
  exact ac_of_body (A := A) hm htt hf hb (by simpa using hk.1) (cwF_cw _ _ _ _ hk.2 retF_retQ h)

theorem rounds_le {B : St → (Ex → St → Prop) → Prop} {sw : Store → List (Key × Key)} {L : List Nat} {KL : List Key} {Q : Ex → St → Prop} (I : Nat → St → Prop)
    (hB : ∀ s R R', (∀ e s, R e s → R' e s) → B s R → B s R')
    (h : ∀ n st, I n st → B st fun e s => match e with
      | .normal => keepOk KL (headSt sw L KL s) = true ∧ ∃ m, m < n ∧ I m (headSt sw L KL s)
      | e => Q e s) : ∀ (N n : Nat) (st : St), n < N → I n st → rounds B sw L KL Q N st
  | 0, _, _, hn, _ => absurd hn (by omega)
  | N + 1, n, st, hn, hi => by
    refine hB st _ _ (fun e s hs => ?_) (h n st hi)
    cases e with
    | normal => obtain ⟨h1, m, h2, h3⟩ := hs; exact ⟨h1, rounds_le I hB h N m _ (by omega) h3⟩
    | exit j => exact hs
    | ret => exact hs

/-- A loop, by what holds at its head. -/
theorem cwF_loop {b : Code} {st : St} {Q : Ex → St → Prop} {sw : Store → List (Key × Key)} {L : List Nat} {KL : List Key} (I : Nat → St → Prop) (n : Nat) (hk : keepOk KL (headSt sw L KL st) = true) (h0 : I n (headSt sw L KL st))
    (h : ∀ n st, I n st → cwF P tt A FK b st fun e s => match e with
      | .normal => keepOk KL (headSt sw L KL s) = true ∧ ∃ m, m < n ∧ I m (headSt sw L KL s)
      | e => Q e s) : keepOk KL (headSt sw L KL st) = true ∧ ∃ n, rounds (cwF P tt A FK b) sw L KL Q n (headSt sw L KL st) :=
  ⟨hk, n + 1, rounds_le (B := cwF P tt A FK b) I (fun s R R' hR hs => cwF_mono b s R R' hR hs) h (n + 1) n _ (by omega) h0⟩

theorem map_get {α : Type} [Inhabited α] {f : α → V} {l : List α} {i : Int} (h : 0 ≤ i ∧ i < (l.map f).length) : (l.map f)[i.toNat]? = some (f (l.getD i.toNat default)) := by
  have h1 : i.toNat < l.length := by have := h.2; rw [List.length_map] at this; omega
  rw [List.getElem?_map, List.getD_eq_getElem?_getD, List.getElem?_eq_getElem h1]; rfl

theorem ob_if {α : Type} {c : Prop} [i : Decidable c] {v : α} {x : Option α} {K : α → Prop} (e : x = if c then some v else none) (h : c) (k : K v) : obind x K := by
  rw [e, if_pos h]; exact k
end
end Go.Eng
