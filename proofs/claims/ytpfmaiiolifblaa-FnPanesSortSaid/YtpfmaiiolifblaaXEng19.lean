/- A machine of values for the program's code, part 19: a statement whose operations may come up in more than one order. -/
import Derived.Test.YtpfmaiiolifblaaXEng18
namespace Go.Eng
open Go.RowKit

theorem opT_sub {op : Op} {μ : Operand → V} {nk : Key} : ∀ k ∈ (opT op μ nk).2, k ∈ (opT op μ nk).1 := by
  intro k hk
  unfold opT at hk ⊢
  split at hk <;> try exact hk
  · cases hk
  · cases hk
  · split at hk
    · simp only [List.mem_append]; exact .inl hk
    · exact hk
  · split at hk
    · simp only [List.mem_append]; exact .inl hk
    · exact hk
  · split at hk
    · exact hk
    · exact hk

/-- A state with one more result in it. -/
def pert (d : Option Nat) (v : V) (ups : List (Key × Obj)) (s : St) : St := ({ s with ob := s.ob.sets ups } : St).put d v

theorem app_pert (st : St) (o : Oper) (r : V × List (Key × Obj)) : app st o r = pert o.dst r.1 r.2 st := rfl

theorem put_tm {s : St} {d : Option Nat} {v : V} {t : Nat} (h : d ≠ some t) : (s.put d v).tm[t]? = s.tm[t]? := by
  cases d with
  | none => rfl
  | some d => simp only [St.put]; rw [List.getElem?_set_ne (by rintro rfl; exact h rfl)]
theorem put_ob {s : St} {d : Option Nat} {v : V} : (s.put d v).ob = s.ob := by cases d <;> rfl
theorem pert_tm {d : Option Nat} {v : V} {ups : List (Key × Obj)} {s : St} {t : Nat} (h : d ≠ some t) : (pert d v ups s).tm[t]? = s.tm[t]? := put_tm h
theorem pert_ob {d : Option Nat} {v : V} {ups : List (Key × Obj)} {s : St} : (pert d v ups s).ob = s.ob.sets ups := put_ob

theorem ev_same {tm tm' : List V} {x : Operand} (h : ∀ t, x = .tmp t → tm[t]? = tm'[t]?) : ev tm x = ev tm' x := by
  cases x <;> try rfl
  rename_i t
  simp only [ev, List.getD, h t rfl]

theorem looks_op {ops : Array Oper} {o : Oper} {t : Nat} {x : Operand} (hx : x ∈ o.op.operands) (e : x = .tmp t) : t ∈ o.looksAt ops :=
  List.mem_append_left _ (List.mem_filterMap.2 ⟨.tmp t, by subst e; simpa using hx, rfl⟩)

theorem ev_ops {tm tm' : List V} {ops : Array Oper} {o : Oper} (h : ∀ t ∈ o.looksAt ops, tm[t]? = tm'[t]?) : ∀ x ∈ o.op.operands, ev tm x = ev tm' x :=
  fun _ hx => ev_same fun t e => h t (looks_op hx e)

theorem gdec_same {tm tm' : List V} {ops : Array Oper} {o : Oper} (h : ∀ t ∈ o.looksAt ops, tm[t]? = tm'[t]?) : gdec ops tm o = gdec ops tm' o := by
  unfold gdec
  cases hg : o.guard with
  | none => rfl
  | some jw =>
    obtain ⟨j, want⟩ := jw
    simp only
    cases hd : (ops[j]?).bind (·.dst) with
    | none => rfl
    | some d =>
      have : tm[d]? = tm'[d]? := h d (by simp [Oper.looksAt, hg, hd])
      simp only [this]

section
variable {P : Program} {tt : TT} {A : Ann} {ops : Array Oper}

theorem TW_move {o : Oper} (hc : isCallO o = false) (st : St) : TW A o st = opT o.op (ev st.tm) (nkO o) := by
  unfold TW
  split
  · rename_i hop; simp [isCallO, hop] at hc
  · rfl

theorem moveF_same {o : Oper} (hc : isCallO o = false) {s s' : St} (h : ∀ t ∈ o.looksAt ops, s.tm[t]? = s'.tm[t]?) (ho : sameAt (TW A o s).1 s.ob s'.ob) :
    moveF tt ops o s = moveF tt ops o s' ∧ TW A o s = TW A o s' := by
  rw [TW_move hc] at ho ⊢
  rw [TW_move hc]
  have hev := ev_ops h
  obtain ⟨e1, e2⟩ := opF_congr (tt := tt) (nk := nkO o) (g := s.ob) hev
  refine ⟨?_, e2⟩
  unfold moveF
  rw [gdec_same h, e1, opF_local (g := s.ob) (h := s'.ob) (by rw [← e2]; exact ho)]

theorem sets_comm {ob : Store} {u v : List (Key × Obj)} (h : ∀ a ∈ u, ∀ b ∈ v, a.1 ≠ b.1) : (ob.sets u).sets v = (ob.sets v).sets u := by
  funext k
  by_cases hu : ∃ a ∈ u, a.1 = k
  · have hv : ∀ b ∈ v, b.1 ≠ k := by
      obtain ⟨a, ha, e⟩ := hu
      intro b hb e'
      exact h a ha b hb (e.trans e'.symm)
    rw [sets_ne hv]
    exact sets_mem hu
  · have hu' : ∀ a ∈ u, a.1 ≠ k := fun a ha e => hu ⟨a, ha, e⟩
    rw [sets_ne hu']
    by_cases hv : ∃ b ∈ v, b.1 = k
    · exact sets_mem hv
    · have hv' : ∀ b ∈ v, b.1 ≠ k := fun a ha e => hv ⟨a, ha, e⟩
      rw [sets_ne hv', sets_ne hv', sets_ne hu']

theorem put_comm {s : St} {d e : Option Nat} {v u : V} (h : ∀ t, d = some t → e ≠ some t) : (s.put d v).put e u = (s.put e u).put d v := by
  cases d with
  | none => rfl
  | some d =>
    cases e with
    | none => rfl
    | some e =>
      have hne : d ≠ e := fun x => h d rfl (x ▸ rfl)
      simp only [St.put]
      rw [List.set_comm _ _ hne]

theorem St.eq {s t : St} (h1 : s.tm = t.tm) (h2 : s.ob = t.ob) : s = t := by
  cases s; cases t; simp only at h1 h2; subst h1 h2; rfl
theorem put_tm' {s : St} {f : Store} {d : Option Nat} {v : V} : (({ s with ob := f } : St).put d v).tm = (s.put d v).tm := by cases d <;> rfl

theorem put_tm_of {s s' : St} (h : s.tm = s'.tm) (d : Option Nat) (v : V) : (s.put d v).tm = (s'.put d v).tm := by cases d <;> simp only [St.put, h]

theorem pert_comm {s : St} {d e : Option Nat} {v u : V} {x y : List (Key × Obj)} (h : ∀ t, d = some t → e ≠ some t) (hk : ∀ a ∈ x, ∀ b ∈ y, a.1 ≠ b.1) :
    pert d v x (pert e u y s) = pert e u y (pert d v x s) := by
  refine St.eq ?_ ?_
  · have p1 : ∀ (d : Option Nat) (v : V) (x : List (Key × Obj)) (s : St), (pert d v x s).tm = (s.put d v).tm := fun _ _ _ _ => put_tm'
    rw [p1, p1 e, put_tm_of (p1 e u y s), put_tm_of (p1 d v x s), put_comm h]
  · rw [pert_ob, pert_ob, pert_ob, pert_ob]
    exact sets_comm (fun a ha b hb => Ne.symm (hk b hb a ha))

theorem call_of {o : Oper} (hc : isCallO o = true) : ∃ fo as ts, o.op = .call { callee := .value fo, args := as, argTypes := ts } := by
  unfold isCallO at hc
  split at hc
  · rename_i h; exact ⟨_, _, _, h⟩
  · cases hc

theorem TW_call {o : Oper} {fo : Operand} {as : Array Operand} {ts : Array TypeId} (hop : o.op = .call { callee := .value fo, args := as, argTypes := ts }) (s : St) :
    TW A o s = match ev s.tm fo with | .fn f caps => callT A.imm s.ob f (as.toList.map (ev s.tm) ++ caps) | _ => ([], []) := by
  unfold TW; simp only [hop]
  cases ev s.tm fo <;> rfl

theorem callStep_call {o : Oper} {fo : Operand} {as : Array Operand} {ts : Array TypeId} (hop : o.op = .call { callee := .value fo, args := as, argTypes := ts }) (s : St) (K : St → Prop) :
    callStep P A o s K = match ev s.tm fo with
      | .fn f caps => callG P A.imm (kbO o) s.ob f (as.toList.map (ev s.tm) ++ caps) fun v ob' => K (({ s with ob := ob' } : St).put o.dst v)
      | _ => False := by
  unfold callStep; simp only [hop]
  cases ev s.tm fo <;> rfl

/-- What an operation looks at hangs on what it looks at. -/
theorem TW_same {o : Oper} {s s' : St} (h : ∀ t ∈ o.looksAt ops, s.tm[t]? = s'.tm[t]?) (ho : sameAt (TW A o s').1 s.ob s'.ob) : TW A o s = TW A o s' := by
  by_cases hc : isCallO o = true
  · obtain ⟨fo, as, ts, hop⟩ := call_of hc
    have hev := ev_ops h
    rw [hop] at hev
    have hfo := hev fo (by simp [Op.operands, Call.operands])
    have has : as.toList.map (ev s.tm) = as.toList.map (ev s'.tm) := args_congr as fun x hx => hev x (by simp [Op.operands, Call.operands, hx])
    rw [TW_call hop] at ho ⊢
    rw [TW_call hop, hfo, has]
    split
    · rename_i f caps hf
      rw [hf] at ho
      exact callT_same ho
    · rfl
  · have hc' : isCallO o = false := by simpa using hc
    rw [TW_move hc', TW_move hc']
    exact (opF_congr (tt := fun _ => none) (g := s.ob) (ev_ops h)).2

/-- What an operation does where another's result is already there, it does where it is not. -/
theorem step_frame {d : Option Nat} {v : V} {ups : List (Key × Obj)} {o : Oper} {st : St} {K : St → Prop} (hl : ∀ t, d = some t → t ∉ o.looksAt ops) (hd : ∀ t, d = some t → o.dst ≠ some t)
    (hu : ∀ u ∈ ups, u.1 ∉ (TW A o (pert d v ups st)).1) (hkb : isCallO o = true → ∀ u ∈ ups, u.1.1 ≠ kbO o) (hs : step P tt A ops o (pert d v ups st) K) :
    TW A o st = TW A o (pert d v ups st) ∧ step P tt A ops o st fun s2 => (∀ t, o.dst ≠ some t → s2.tm[t]? = st.tm[t]?) ∧ (∀ k, k ∉ (TW A o st).2 → (isCallO o = true → k.1 ≠ kbO o) → s2.ob k = st.ob k) ∧ K (pert d v ups s2) := by
  have htm : ∀ t ∈ o.looksAt ops, (pert d v ups st).tm[t]? = st.tm[t]? := fun t ht => pert_tm (fun e => hl t e ht)
  have hob : ∀ k, (∀ u ∈ ups, u.1 ≠ k) → (pert d v ups st).ob k = st.ob k := fun k hk => by rw [pert_ob, sets_ne hk]
  have hsame : sameAt (TW A o (pert d v ups st)).1 st.ob (pert d v ups st).ob := fun k hk => (hob k fun u hu' e => hu u hu' (e ▸ hk)).symm
  have hTW := TW_same (A := A) (o := o) (s := st) (s' := pert d v ups st) (fun t ht => (htm t ht).symm) hsame
  refine ⟨hTW, ?_⟩
  have hg := gdec_same htm
  have skip : K ((pert d v ups st).put o.dst (.lit undef)) → (∀ t, o.dst ≠ some t → (st.put o.dst (.lit undef)).tm[t]? = st.tm[t]?) ∧ (∀ k, k ∉ (TW A o st).2 → (isCallO o = true → k.1 ≠ kbO o) → (st.put o.dst (.lit undef)).ob k = st.ob k) ∧
      K (pert d v ups (st.put o.dst (.lit undef))) := by
    intro hk
    refine ⟨fun t ht => put_tm ht, fun k _ _ => by rw [put_ob], ?_⟩
    have := pert_comm (s := st) (d := d) (e := o.dst) (v := v) (u := .lit undef) (x := ups) (y := []) hd (fun a _ b hb => by cases hb)
    have e2 : ∀ s : St, pert o.dst (.lit undef) [] s = s.put o.dst (.lit undef) := fun _ => rfl
    rw [e2, e2] at this
    rw [this]; exact hk
  by_cases hc : isCallO o = true
  · obtain ⟨fo, as, ts, hop⟩ := call_of hc
    unfold step at hs ⊢
    rw [if_pos hc, hg] at hs
    rw [if_pos hc]
    cases hgd : gdec ops st.tm o with
    | none => rw [hgd] at hs; exact hs.elim
    | some g =>
      rw [hgd] at hs
      cases g with
      | false => exact skip (by simpa [gif] using hs)
      | true =>
        have hs : callStep P A o (pert d v ups st) K := by simpa [gif] using hs
        show gif (some true) _ _
        simp only [gif, if_true]
        have hev := ev_ops htm
        rw [hop] at hev
        have hfo := hev fo (by simp [Op.operands, Call.operands])
        have has : as.toList.map (ev (pert d v ups st).tm) = as.toList.map (ev st.tm) := args_congr as fun x hx => hev x (by simp [Op.operands, Call.operands, hx])
        rw [callStep_call hop, hfo, has] at hs
        rw [TW_call hop, hfo, has] at hu
        rw [callStep_call hop]
        split at hs <;> try exact hs.elim
        rename_i f caps hfn
        rw [hfn] at hu
        have hu : ∀ u ∈ ups, u.1 ∉ (callT A.imm (pert d v ups st).ob f (as.toList.map (ev st.tm) ++ caps)).1 := hu
        rw [pert_ob] at hu hs
        obtain ⟨g1, g2⟩ := callG_frame (g := st.ob) (ups := ups) (fun u hu' => ⟨hu u hu', hkb hc u hu'⟩) hs
        refine g2.mono' fun v' ob' ⟨a1, a2⟩ => ⟨fun t ht => put_tm ht, fun k hk hk2 => ?_, ?_⟩
        · rw [put_ob]
          refine a1 k ?_ (hk2 hc)
          rw [TW_call hop, hfn] at hk
          exact hk
        · have e1 : pert d v ups (({ st with ob := ob' } : St).put o.dst v') = ({ (pert d v ups st) with ob := ob'.sets ups } : St).put o.dst v' := by
            refine St.eq ?_ ?_
            · have p1 : ∀ s : St, (pert d v ups s).tm = (s.put d v).tm := fun _ => put_tm'
              rw [p1, put_tm_of (put_tm' (s := st) (f := ob') (d := o.dst) (v := v')) d v,
                put_tm_of (show ({ (pert d v ups st) with ob := ob'.sets ups } : St).tm = (st.put d v).tm from p1 st) o.dst v', put_comm hd]
            · rw [pert_ob, put_ob, put_ob]
          rw [e1]; exact a2
  · have hc' : isCallO o = false := by simpa using hc
    unfold step at hs ⊢
    rw [if_neg hc] at hs
    rw [if_neg hc]
    have hm := (moveF_same (tt := tt) (A := A) (ops := ops) hc' (s := st) (s' := pert d v ups st) (fun t ht => (htm t ht).symm) (by rw [hTW]; exact hsame)).1
    rw [← hm] at hs
    rw [obind_iff] at hs ⊢
    obtain ⟨r, hr, hk⟩ := hs
    refine ⟨r, hr, fun t ht => ?_, fun k hk' _ => ?_, ?_⟩
    · exact pert_tm ht
    · rw [app_pert, pert_ob]
      refine sets_ne fun u hu' e => hk' ?_
      rw [TW_move hc', ← e]
      unfold moveF at hr
      split at hr
      · cases hr
      split at hr
      · exact opF_keys hr u hu'
      · cases hr; cases hu'
    · rw [app_pert] at hk ⊢
      rw [pert_comm hd ?_]
      · exact hk
      · intro a ha b hb e
        refine hu a ha ?_
        rw [← hTW, TW_move hc', e]
        refine opT_sub _ ?_
        unfold moveF at hr
        split at hr
        · cases hr
        split at hr
        · exact opF_keys hr b hb
        · cases hr; cases hb
end
end Go.Eng
