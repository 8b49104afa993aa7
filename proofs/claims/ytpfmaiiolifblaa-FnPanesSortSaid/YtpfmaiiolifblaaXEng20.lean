/- A machine of values for the program's code, part 20: one order for all. -/
import Derived.Test.YtpfmaiiolifblaaXEng19
namespace Go.Eng
open Go.RowKit

structure Ent where
  i : Nat
  T : List Key
  W : List Key

def disj (x y : List Key) : Bool := x.all fun k => !y.contains k
def offKb (kb : Nat) (x : List Key) : Bool := x.all fun k => k.1 != kb

theorem disj_iff {x y : List Key} (h : disj x y = true) : ∀ k ∈ x, k ∉ y := by
  intro k hk hy
  have := List.all_eq_true.1 h k hk
  simp [hy] at this
theorem offKb_iff {kb : Nat} {x : List Key} (h : offKb kb x = true) : ∀ k ∈ x, k.1 ≠ kb := by
  intro k hk
  have := List.all_eq_true.1 h k hk
  simpa using this

/-- Operation i may stand behind what has been done: it is bound to come behind it, or neither touches what the other changes. -/
def chk (anc : List Nat) (o : Oper) (i : Nat) (T W : List Key) (log : List Ent) : Bool :=
  log.all fun e => (anc.getD i 0).testBit e.i || (disj e.W T && disj W e.T && (!isCallO o || offKb (kbO o) e.T))

section
variable {P : Program} {tt : TT} {A : Ann} {ops : Array Oper} {anc : List Nat}

def planOps (P : Program) (tt : TT) (A : Ann) (ops : Array Oper) (anc : List Nat) : List Nat → List Ent → St → (St → Prop) → Prop
  | [], _, st, K => K st
  | i :: is, log, st, K => match ops[i]? with
    | none => False
    | some o => chk anc o i (TW A o st).1 (TW A o st).2 log = true ∧ step P tt A ops o st fun st' => planOps P tt A ops anc is (log ++ [⟨i, (TW A o st).1, (TW A o st).2⟩]) st' K

theorem step_mono {o : Oper} {st : St} {K K' : St → Prop} (h : step P tt A ops o st K) (hk : ∀ s, K s → K' s) : step P tt A ops o st K' := by
  unfold step at h ⊢
  split at h
  · rename_i hc
    rw [if_pos hc]
    unfold gif at h ⊢
    split at h
    · exact h.elim
    split at h
    · rename_i hg
      rw [if_pos hg]
      unfold callStep at h ⊢
      split at h <;> try exact h.elim
      split at h <;> try exact h.elim
      exact h.mono' fun v o hv => hk _ hv
    · rename_i hg
      rw [if_neg hg]; exact hk _ h
  · rename_i hc
    rw [if_neg hc]
    rw [obind_iff] at h ⊢
    obtain ⟨x, h1, h2⟩ := h
    exact ⟨x, h1, hk _ h2⟩

theorem chk_sub {o : Oper} {i : Nat} {T W : List Key} {log log' : List Ent} (h : chk anc o i T W log = true) (hs : ∀ e ∈ log', e ∈ log) : chk anc o i T W log' = true := by
  unfold chk at *
  rw [List.all_eq_true] at *
  exact fun e he => h e (hs e he)

theorem planOps_log : ∀ {R : List Nat} {log log' : List Ent} {st : St} {K : St → Prop}, (∀ e ∈ log', e ∈ log) → planOps P tt A ops anc R log st K → planOps P tt A ops anc R log' st K
  | [], _, _, _, _, _, h => h
  | i :: is, log, log', st, K, hs, h => by
    unfold planOps at h ⊢
    split at h
    · exact h.elim
    · rename_i o ho
      obtain ⟨h1, h2⟩ := h
      refine ⟨chk_sub h1 hs, step_mono h2 fun s hs' => planOps_log (fun e he => ?_) hs'⟩
      simp only [List.mem_append] at he ⊢
      exact he.imp (hs e) id

theorem TW_sub {o : Oper} {st : St} (hc : isCallO o = false) : ∀ k ∈ (TW A o st).2, k ∈ (TW A o st).1 := by
  rw [TW_move hc]; exact opT_sub

theorem move_keys {o : Oper} {st : St} {r : V × List (Key × Obj)} (hc : isCallO o = false) (h : moveF tt ops o st = some r) : ∀ u ∈ r.2, u.1 ∈ (TW A o st).2 := by
  rw [TW_move hc]
  unfold moveF at h
  split at h
  · cases h
  split at h
  · obtain ⟨v, ups⟩ := r; exact opF_keys h
  · cases h; intro u hu; cases hu

/-- Two operations that have nothing to do with each other change places. -/
theorem swap {op oi : Oper} (hcp : isCallO op = false) (hap : op.apart ops oi = true) {st : St} {K : St → Prop}
    (h : step P tt A ops op st fun s1 => (disj (TW A op st).2 (TW A oi s1).1 = true ∧ disj (TW A oi s1).2 (TW A op st).1 = true ∧ (!isCallO oi || offKb (kbO oi) (TW A op st).1) = true) ∧ step P tt A ops oi s1 K) :
    ∃ s1, step P tt A ops op st (fun s => s = s1) ∧ TW A oi st = TW A oi s1 ∧ step P tt A ops oi st fun s2 => TW A op s2 = TW A op st ∧ step P tt A ops op s2 K := by
  obtain ⟨a1, a2, a3⟩ := Oper.apart_spec hap
  have hpm : ∀ s K', step P tt A ops op s K' ↔ obind (moveF tt ops op s) fun r => K' (app s op r) := fun s K' => by
    unfold step; rw [if_neg (by simp [hcp])]
  rw [hpm, obind_iff] at h
  obtain ⟨⟨v, ups⟩, hr, ⟨hd1, hd2, hd3⟩, hs⟩ := h
  rw [app_pert] at hd1 hd2 hs
  have hkeys := move_keys (A := A) hcp hr
  obtain ⟨g1, g2⟩ := step_frame (d := op.dst) (v := v) (ups := ups) (o := oi) (st := st) (fun t ht => a1 t ht) (fun t ht => a2 t ht)
    (fun u hu => disj_iff hd1 _ (hkeys u hu)) (fun hc u hu => by
      rw [hc] at hd3
      exact offKb_iff (by simpa using hd3) _ (TW_sub hcp _ (hkeys u hu))) hs
  refine ⟨pert op.dst v ups st, by rw [hpm, obind_iff]; exact ⟨_, hr, rfl⟩, g1, step_mono g2 fun s2 ⟨b1, b2, b3⟩ => ?_⟩
  have hsm : sameAt (TW A op st).1 st.ob s2.ob := by
    intro k hk
    refine (b2 k (fun hkw => ?_) (fun hc => ?_)).symm
    · rw [g1] at hkw
      exact disj_iff hd2 k hkw hk
    · rw [hc] at hd3
      exact offKb_iff (by simpa using hd3) k hk
  obtain ⟨m1, m2⟩ := moveF_same (tt := tt) (A := A) (ops := ops) hcp (s := st) (s' := s2) (fun t ht => (b1 t (fun e => a3 t e ht)).symm) hsm
  refine ⟨m2.symm, ?_⟩
  rw [hpm, obind_iff]
  exact ⟨(v, ups), by rw [← m1]; exact hr, b3⟩

theorem planOps_cons {i : Nat} {is : List Nat} {log : List Ent} {st : St} {K : St → Prop} {o : Oper} (ho : ops[i]? = some o) :
    planOps P tt A ops anc (i :: is) log st K = (chk anc o i (TW A o st).1 (TW A o st).2 log = true ∧ step P tt A ops o st fun st' => planOps P tt A ops anc is (log ++ [⟨i, (TW A o st).1, (TW A o st).2⟩]) st' K) := by
  simp only [planOps, ho]

theorem step_move {o : Oper} (hc : isCallO o = false) (s : St) (K : St → Prop) : step P tt A ops o s K ↔ obind (moveF tt ops o s) fun r => K (app s o r) := by
  unfold step; rw [if_neg (by simp [hc])]

/-- What may come up first may be done first. -/
theorem pull {i : Nat} {oi : Oper} (hi : ops[i]? = some oi) {R2 : List Nat} {K : St → Prop} (R1 : List Nat) : ∀ {log : List Ent} {st : St},
    (∀ p ∈ R1, (anc.getD i 0).testBit p = false ∧ ∃ op, ops[p]? = some op ∧ isCallO op = false ∧ op.apart ops oi = true) → planOps P tt A ops anc (R1 ++ i :: R2) log st K →
    chk anc oi i (TW A oi st).1 (TW A oi st).2 log = true ∧ step P tt A ops oi st fun s2 => planOps P tt A ops anc (R1 ++ R2) log s2 K := by
  induction R1 with
  | nil =>
    intro log st _ h
    rw [List.nil_append, planOps_cons hi] at h
    exact ⟨h.1, step_mono h.2 fun s hs => planOps_log (fun e he => by simp [he]) hs⟩
  | cons p R1 ih =>
    intro log st hR h
    obtain ⟨hanc, op, hp, hcp, hap⟩ := hR p (by simp)
    rw [List.cons_append, planOps_cons hp] at h
    obtain ⟨h1, h2⟩ := h
    have h3 := step_mono h2 fun s hs => ih (fun q hq => hR q (by simp [hq])) hs
    have hent : ∀ s1 : St, chk anc oi i (TW A oi s1).1 (TW A oi s1).2 (log ++ [⟨p, (TW A op st).1, (TW A op st).2⟩]) = true →
        disj (TW A op st).2 (TW A oi s1).1 = true ∧ disj (TW A oi s1).2 (TW A op st).1 = true ∧ (!isCallO oi || offKb (kbO oi) (TW A op st).1) = true := by
      intro s1 c1
      unfold chk at c1
      rw [List.all_eq_true] at c1
      have := c1 ⟨p, (TW A op st).1, (TW A op st).2⟩ (by simp)
      rw [hanc, Bool.false_or, Bool.and_eq_true, Bool.and_eq_true] at this
      exact ⟨this.1.1, this.1.2, this.2⟩
    -- behind p
    have h4 : step P tt A ops op st fun s1 => (disj (TW A op st).2 (TW A oi s1).1 = true ∧ disj (TW A oi s1).2 (TW A op st).1 = true ∧ (!isCallO oi || offKb (kbO oi) (TW A op st).1) = true) ∧
        step P tt A ops oi s1 fun s2 => planOps P tt A ops anc (R1 ++ R2) (log ++ [⟨p, (TW A op st).1, (TW A op st).2⟩]) s2 K :=
      step_mono h3 fun s1 c => ⟨hent s1 c.1, c.2⟩
    obtain ⟨s1, e1, e2, e3⟩ := swap hcp hap h4
    refine ⟨?_, ?_⟩
    · -- i against what was done before
      rw [step_move hcp, obind_iff] at e1 h3
      obtain ⟨r, hr, hrr⟩ := e1
      obtain ⟨r', hr', c1, _⟩ := h3
      rw [hr] at hr'; cases hr'
      rw [hrr, ← e2] at c1
      exact chk_sub c1 (fun e he => by simp [he])
    · refine step_mono e3 fun s2 f => ?_
      rw [List.cons_append, planOps_cons hp, f.1]
      exact ⟨h1, f.2⟩
end
end Go.Eng
