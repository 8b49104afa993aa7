/- A machine of values for the program's code, part 18: operations that may change places. -/
import Derived.Test.YtpfmaiiolifblaaXEng13
namespace Go.Eng
open Go.RowKit

theorem pairs_congr {μ μ' : Operand → V} (ps : Array (Nat × Operand)) (h : ∀ x ∈ (ps.toList.map (·.2)).toArray, μ x = μ' x) :
    (ps.toList.map fun p => (p.1, μ p.2)) = (ps.toList.map fun p => (p.1, μ' p.2)) :=
  List.map_congr_left fun p hp => by rw [h p.2 (by simp; exact ⟨p.1, by simpa using hp⟩)]

theorem args_congr {μ μ' : Operand → V} (xs : Array Operand) (h : ∀ x ∈ xs, μ x = μ' x) : xs.toList.map μ = xs.toList.map μ' :=
  List.map_congr_left fun x hx => h x (by simpa using hx)

theorem pureF_congr {tt : TT} {op : Op} {μ μ' : Operand → V} (h : ∀ x ∈ op.operands, μ x = μ' x) : pureF tt op μ = pureF tt op μ' := by
  cases op <;> simp only [Op.operands] at h <;> try rfl
  case move x => simp only [pureF, h x (by simp)]
  case assign x => simp only [pureF, h x (by simp)]
  case pick c a b => simp only [pureF, h c (by simp), h a (by simp), h b (by simp)]
  case build t ps => simp only [pureF, pairs_congr ps h]
  case load t a => simp only [pureF, h a (by simp)]
  case nilCheck x => simp only [pureF, h x (by simp)]
  case binOp op t x y u => simp only [pureF, h x (by simp), h y (by simp)]
  case unOp op t x => simp only [pureF, h x (by simp)]
  case convert s d x => simp only [pureF, h x (by simp)]
  case makeFunc fn first cap =>
    cases fn <;> try rfl
    simp only [pureF, args_congr cap (fun x hx => h x (by simp [hx]))]
  case slice t x lo hi mx =>
    have e1 : lo.map μ = lo.map μ' := by cases lo <;> simp_all
    have e2 : hi.map μ = hi.map μ' := by cases hi <;> simp_all
    have e3 : mx.map μ = mx.map μ' := by cases mx <;> simp_all
    simp only [pureF, h x (by simp), e1, e2, e3]
  case fieldAddr s x f => simp only [pureF, h x (by simp)]
  case field s x f => simp only [pureF, h x (by simp)]
  case indexAddr t x i => simp only [pureF, h x (by simp), h i (by simp)]
  case index t x i => simp only [pureF, h x (by simp), h i (by simp)]
  case extract t i => simp only [pureF, h t (by simp)]
  case call c =>
    obtain ⟨callee, args, ts⟩ := c
    cases callee <;> try rfl
    simp only [pureF, args_congr args (fun x hx => h x (by simp [Call.operands, hx]))]

theorem opF_congr {tt : TT} {nk : Key} {op : Op} {μ μ' : Operand → V} {g : Store} (h : ∀ x ∈ op.operands, μ x = μ' x) : opF tt nk op μ g = opF tt nk op μ' g ∧ opT op μ nk = opT op μ' nk := by
  have hp := pureF_congr (tt := tt) h
  cases op <;> simp only [Op.operands] at h
  case alloc e => exact ⟨rfl, rfl⟩
  case box e x => exact ⟨by simp only [opF, h x (by simp)], rfl⟩
  case buildSlice t len ps =>
    have := pairs_congr ps h
    refine ⟨by simp only [opF, this], ?_⟩
    have e : (ps.toList.map fun p => μ p.2) = ps.toList.map fun p => μ' p.2 := List.map_congr_left fun p hp => h p.2 (by simp; exact ⟨p.1, by simpa using hp⟩)
    simp only [opT, e]
  case load t a => exact ⟨by simp only [opF, hp, h a (by simp)], by simp only [opT, h a (by simp)]⟩
  case convert s d x => exact ⟨by simp only [opF, hp, h x (by simp)], by simp only [opT, h x (by simp)]⟩
  case store t a x => exact ⟨by simp only [opF, h a (by simp), h x (by simp)], by simp only [opT, h a (by simp), h x (by simp)]⟩
  case makeSlice t l c => exact ⟨by simp only [opF, h l (by simp), h c (by simp)], rfl⟩
  case call c =>
    obtain ⟨callee, args, ts⟩ := c
    have ha : ∀ x ∈ args, μ x = μ' x := fun x hx => h x (by simp [Call.operands, hx])
    cases callee
    case value f => exact ⟨by simp only [opF, hp], rfl⟩
    case invoke r m => exact ⟨by simp only [opF, hp], rfl⟩
    rename_i b
    cases b
    case append =>
      simp only [opF, opT]
      constructor
      · split <;> try rfl
        rename_i t tx s x hts has
        have e := arr_two has; subst e
        rw [ha s (by simp), ha x (by simp)]
      · split <;> try rfl
        rename_i s x has
        have e := arr_two has; subst e
        rw [ha s (by simp), ha x (by simp)]
    case copy =>
      simp only [opF, opT]
      constructor
      · split <;> try rfl
        rename_i t tx s x hts has
        have e := arr_two has; subst e
        rw [ha s (by simp), ha x (by simp)]
      · split <;> try rfl
        rename_i s x has
        have e := arr_two has; subst e
        rw [ha s (by simp), ha x (by simp)]
    case clear =>
      simp only [opF, opT]
      constructor
      · split <;> try rfl
        rename_i t s hts has
        have e := arr_one has; subst e
        rw [ha s (by simp)]
      · split <;> try rfl
        rename_i s has
        have e := arr_one has; subst e
        rw [ha s (by simp)]
    all_goals exact ⟨by simp only [opF, hp], rfl⟩
  all_goals exact ⟨by simp only [opF, hp], rfl⟩

def gdec (ops : Array Oper) (tm : List V) (o : Oper) : Option Bool :=
  match o.guard with
  | none => some true
  | some (j, want) => match (ops[j]?).bind (·.dst) with
    | some d => match tm[d]? with
      | some (.lit (.bool b)) => some (b == want)
      | some (.lit _) => some false
      | _ => none
    | none => some false

def obind {α : Type} : Option α → (α → Prop) → Prop
  | some x, K => K x
  | none, _ => False

theorem obind_some {α : Type} {o : Option α} {x : α} {K : α → Prop} (h : o = some x) (hk : K x) : obind o K := by rw [h]; exact hk
theorem obind_iff {α : Type} {o : Option α} {K : α → Prop} : obind o K ↔ ∃ x, o = some x ∧ K x := by
  cases o <;> simp [obind]

def isCallO (o : Oper) : Bool :=
  match o.op with
  | .call { callee := .value _, .. } => true
  | _ => false

def app (st : St) (o : Oper) (r : V × List (Key × Obj)) : St := ({ st with ob := st.ob.sets r.2 } : St).put o.dst r.1

def moveF (tt : TT) (ops : Array Oper) (o : Oper) (st : St) : Option (V × List (Key × Obj)) :=
  match gdec ops st.tm o with
  | none => none
  | some g => if g = true then opF tt (nkO o) o.op (ev st.tm) st.ob else some (.lit undef, [])

def callStep (P : Program) (A : Ann) (o : Oper) (st : St) (K : St → Prop) : Prop :=
  match o.op with
  | .call { callee := .value fo, args := as, .. } => match ev st.tm fo with
    | .fn f caps => callG P A.imm (kbO o) st.ob f (as.toList.map (ev st.tm) ++ caps) fun v ob' => K (({ st with ob := ob' } : St).put o.dst v)
    | _ => False
  | _ => False

def gif (g : Option Bool) (a b : Prop) : Prop :=
  match g with
  | none => False
  | some g => if g = true then a else b

def step (P : Program) (tt : TT) (A : Ann) (ops : Array Oper) (o : Oper) (st : St) (K : St → Prop) : Prop :=
  if isCallO o = true then gif (gdec ops st.tm o) (callStep P A o st K) (K (st.put o.dst (.lit undef)))
  else obind (moveF tt ops o st) fun r => K (app st o r)

def TW (A : Ann) (o : Oper) (st : St) : List Key × List Key :=
  match o.op with
  | .call { callee := .value fo, args := as, .. } => match ev st.tm fo with
    | .fn f caps => callT A.imm st.ob f (as.toList.map (ev st.tm) ++ caps)
    | _ => ([], [])
  | op => opT op (ev st.tm) (nkO o)

section
variable {P : Program} {tt : TT} {A : Ann} {ops : Array Oper} {c : Ctx} {st : St} {a : Act} {w : World}

theorem gdec_sound (h : InvE c st a w) {o : Oper} {g : Bool} (hg : gdec ops st.tm o = some g) : Region.wanted o (yielded ops a.tmps) = g := by
  obtain ⟨F, pl, h⟩ := h
  unfold gdec at hg
  unfold Region.wanted
  cases hgu : o.guard with
  | none => simp only [hgu, Option.some.injEq] at hg; exact hg
  | some jw =>
    obtain ⟨j, want⟩ := jw
    simp only [hgu] at hg ⊢
    unfold yielded
    cases hd : (ops[j]?).bind (·.dst) with
    | none => simp [hd] at hg ⊢; rw [← hg]
    | some d =>
      simp only [hd] at hg ⊢
      cases ht : st.tm[d]? with
      | none => simp [ht] at hg
      | some v =>
        obtain ⟨hlt, hr⟩ := h.tm d v ht
        have key : ∀ u, v = .lit u → a.tmps[d]? = some u := by
          rintro u rfl
          rw [Array.getElem?_eq_getElem hlt, hr.lit_inv]
        rw [ht] at hg
        split at hg
        · rename_i b hb
          cases hb
          simp only [Option.some.injEq] at hg
          simp [key _ rfl, ← hg]
        · rename_i u hnb hu
          cases hu
          simp only [Option.some.injEq] at hg
          rw [← hg]
          simp only [Option.bind_some, key _ rfl]
          cases u <;> first | rfl | exact absurd rfl (hnb _)
        · cases hg

theorem kbO_ne (o : Oper) : kbO o ≠ 0 := by unfold kbO; split <;> omega

theorem step_sound (htt : TTok P tt) {i : Nat} {o : Oper} (ho : ops[i]? = some o) (h : InvE c st a w) {K : St → Prop} (hs : step P tt A ops o st K) {next : Act → World → Prop} {Q : Exit → Act → World → Prop}
    (hn : ∀ st', K st' → ∀ a' w', InvE c st' a' w' → next a' w') : wpOp P ops Q i next a w := by
  have skip : K (st.put o.dst (.lit undef)) → next (a.put o.dst undef) w := fun hk => by
    obtain ⟨F, pl, hI⟩ := h
    exact hn _ hk _ _ ⟨F, pl, hI.put o.dst .lit⟩
  unfold wpOp
  simp only [ho]
  unfold step at hs
  split at hs
  · rename_i hc
    unfold gif at hs
    split at hs
    · exact hs.elim
    rename_i g hg
    have hw := gdec_sound h hg
    split at hs
    · rename_i hgt
      rw [hw, if_pos hgt]
      left
      unfold callStep at hs
      split at hs <;> try exact hs.elim
      rename_i fo as ts hop
      split at hs <;> try exact hs.elim
      rename_i f caps hμ
      refine call_sound (kbO_ne o) h o hop hμ (callG.mono' hs fun v ob' hk a' w' hi => hn _ hk a' w' hi)
    · rename_i hgt
      rw [hw, if_neg hgt]
      exact skip hs
  · rw [obind_iff] at hs
    obtain ⟨r, hm, hk⟩ := hs
    unfold moveF at hm
    split at hm
    · cases hm
    rename_i g hg
    have hw := gdec_sound h hg
    split at hm
    · rename_i hgt
      rw [hw, if_pos hgt]
      left
      obtain ⟨v, ups⟩ := r
      exact op_sound htt h (kbO_ne o) o hm fun a' w' hi => hn _ hk a' w' hi
    · rename_i hgt
      rw [hw, if_neg hgt]
      cases hm
      exact skip hk
end
end Go.Eng
