/- A machine of values for the program's code, part 21: statements, and code. -/
import Derived.Test.YtpfmaiiolifblaaXEng20
namespace Go.Eng
open Go.RowKit

/-- Which operations each is bound to come behind, as a number's bits. -/
def ancTbl (ops : Array Oper) : List Nat :=
  ops.toList.foldl (fun rows o => rows ++ [o.after.toList.foldl (fun s e => if Region.binds .any e = true then s ||| 2 ^ e.on ||| rows.getD e.on 0 else s) 0]) []

def ancOk (ops : Array Oper) (anc : List Nat) : Bool :=
  (List.range ops.size).all fun i => match ops[i]? with
    | none => true
    | some o => (List.range ops.size).all fun x => !(anc.getD i 0).testBit x || o.after.toList.any fun e => Region.binds .any e && (e.on == x || (anc.getD e.on 0).testBit x)

def pairOk (ops : Array Oper) (anc : List Nat) (p i : Nat) : Bool :=
  match ops[p]?, ops[i]? with
  | some op, some oi => (!isCallO op || (anc.getD i 0).testBit p) && ((anc.getD i 0).testBit p || op.apart ops oi) && !(op.after.toList.any fun e => Region.binds .any e && e.on == i) && p != i
  | _, _ => false

def pairsOk (ops : Array Oper) (anc : List Nat) : List Nat → Bool
  | [] => true
  | p :: ps => ps.all (fun i => pairOk ops anc p i) && pairsOk ops anc ps

def selfOk (ops : Array Oper) : Bool :=
  (List.range ops.size).all fun i => match ops[i]? with
    | none => true
    | some o => !(o.after.toList.any fun e => Region.binds .any e && (e.on == i || ops.size ≤ e.on))

def planOk (ops : Array Oper) (anc : List Nat) (plan : List Nat) : Bool :=
  ancOk ops anc && pairsOk ops anc plan && selfOk ops && plan.length == ops.size && (List.range ops.size).all (plan.contains ·) && plan.all (· < ops.size)

/-- What may come up next: what is no call first. -/
def nextOp (ops : Array Oper) (done : Nat) : Option Nat :=
  let ready (i : Nat) : Bool := !done.testBit i && match ops[i]? with
    | some o => o.after.toList.all fun e => !Region.binds .any e || done.testBit e.on
    | none => false
  match (List.range ops.size).find? (fun i => ready i && match ops[i]? with | some o => !isCallO o | none => false) with
  | some i => some i
  | none => (List.range ops.size).find? ready

def planGo (ops : Array Oper) : Nat → Nat → List Nat
  | 0, _ => []
  | n + 1, done => match nextOp ops done with
    | some i => i :: planGo ops n (done ||| 2 ^ i)
    | none => []

def planOf (ops : Array Oper) : List Nat := planGo ops ops.size 0

section
variable {P : Program} {tt : TT} {A : Ann} {ops : Array Oper} {anc : List Nat} {c : Ctx}

theorem pairs_pair : ∀ {ps : List Nat}, pairsOk ops anc ps = true → ps.Pairwise fun p i => pairOk ops anc p i = true
  | [], _ => List.Pairwise.nil
  | p :: ps, h => by
    simp only [pairsOk, Bool.and_eq_true, List.all_eq_true] at h
    exact List.Pairwise.cons (fun i hi => h.1 i hi) (pairs_pair h.2)

structure Rest (ops : Array Oper) (anc : List Nat) (plan R : List Nat) (D : Array Bool) : Prop where
  sub : R.Sublist plan
  mem : ∀ i, i ∈ R ↔ i < ops.size ∧ D.getD i true = false
  size : D.size = ops.size
  clo : ∀ i x, D.getD i false = true → (anc.getD i 0).testBit x = true → x < ops.size → D.getD x false = true

theorem getD_two {D : Array Bool} {i : Nat} (h : i < D.size) (d e : Bool) : D.getD i d = D.getD i e := by simp [Array.getD, h]

theorem plan_any {plan : List Nat} (hpl : planOk ops anc plan = true) (htt : TTok P tt) {Q : Exit → Act → World → Prop} {K : St → Prop} (hK : ∀ st', K st' → ∀ a w, InvE c st' a w → Q .normal a w) :
    ∀ (n : Nat) (R : List Nat) (D : Array Bool) (st : St) (a : Act) (w : World), R.length = n → Rest ops anc plan R D → planOps P tt A ops anc R [] st K → InvE c st a w → wpAny P .any ops Q n D a w := by
  simp only [planOk, Bool.and_eq_true, beq_iff_eq] at hpl
  obtain ⟨⟨⟨⟨⟨hanc, hpairs⟩, hself⟩, hlen⟩, hall⟩, hlt⟩ := hpl
  have hpw := pairs_pair hpairs
  have notReady : ∀ {R : List Nat} {D : Array Bool}, Rest ops anc plan R D → ∀ j ∈ Region.ready .any ops D, j ∈ R := by
    intro R D hR j hj
    obtain ⟨h0, o, ho, _⟩ := mem_ready.1 hj
    exact (hR.mem j).2 ⟨(Array.getElem?_eq_some_iff.1 ho).1, h0⟩
  intro n
  induction n with
  | zero =>
    intro R D st a w hn hR hp hI
    have : R = [] := List.eq_nil_of_length_eq_zero hn
    subst this
    refine ⟨?_, hK st hp a w hI⟩
    apply List.eq_nil_iff_forall_not_mem.2
    intro j hj
    have := notReady hR j hj
    cases this
  | succ n ih =>
    intro R D st a w hn hR hp hI
    refine ⟨fun hno => ?_, fun i hi => ?_⟩
    · -- the first of what is left is ready
      exfalso
      cases R with
      | nil => simp at hn
      | cons h t =>
        have hm := (hR.mem h).1 (by simp)
        obtain ⟨o, ho⟩ : ∃ o, ops[h]? = some o := ⟨_, Array.getElem?_eq_getElem hm.1⟩
        have : h ∈ Region.ready .any ops D := by
          rw [mem_ready]
          refine ⟨hm.2, o, ho, fun e he hb => ?_⟩
          have hs := List.all_eq_true.1 hself h (by simpa using hm.1)
          simp only [ho, Bool.not_eq_true', List.any_eq_false] at hs
          have hs' := hs e (by simpa using he)
          simp only [hb, Bool.true_and, Bool.or_eq_true, beq_iff_eq, decide_eq_true_eq, not_or] at hs'
          have hlt' : e.on < ops.size := by omega
          cases hd : D.getD e.on false with
          | true => rfl
          | false =>
            exfalso
            have hin : e.on ∈ h :: t := (hR.mem e.on).2 ⟨hlt', by rw [getD_two (by rw [hR.size]; exact hlt') true false]; exact hd⟩
            rcases List.mem_cons.1 hin with hq | hq
            · exact hs'.1 hq
            · have hp2 := hpw.sublist hR.sub
              have := List.rel_of_pairwise_cons hp2 hq
              unfold pairOk at this
              simp only [ho] at this
              split at this
              · rename_i op oi h1 h2
                cases h1
                simp only [Bool.and_eq_true, Bool.not_eq_true', List.any_eq_false] at this
                have := this.1.2 e (by simpa using he)
                simp [hb] at this
              · cases this
        rw [hno] at this
        cases this
    · have hiR := notReady hR i hi
      obtain ⟨h0, oi, hoi, hdep⟩ := mem_ready.1 hi
      have hilt := (Array.getElem?_eq_some_iff.1 hoi).1
      -- what it is bound to come behind has come up
      have hup : ∀ x, (anc.getD i 0).testBit x = true → x < ops.size → D.getD x false = true := by
        intro x hx hxs
        have h1 := List.all_eq_true.1 hanc i (by simpa using hilt)
        simp only [hoi, List.all_eq_true] at h1
        have h2 := h1 x (by simpa using hxs)
        rw [hx] at h2
        simp only [Bool.not_true, Bool.false_or, List.any_eq_true, Bool.and_eq_true, Bool.or_eq_true, beq_iff_eq] at h2
        obtain ⟨e, he, hb, hor⟩ := h2
        have hd := hdep e (by simpa using he) hb
        rcases hor with rfl | hor
        · exact hd
        · exact hR.clo _ x hd hor hxs
      obtain ⟨R1, R2, rfl⟩ := List.append_of_mem hiR
      have hp2 := hpw.sublist hR.sub
      have hrel : ∀ p ∈ R1, pairOk ops anc p i = true := fun p hp => (List.pairwise_append.1 hp2).2.2 p hp i (by simp)
      have hR1 : ∀ p ∈ R1, (anc.getD i 0).testBit p = false ∧ ∃ op, ops[p]? = some op ∧ isCallO op = false ∧ op.apart ops oi = true := by
        intro p hp'
        have hm := (hR.mem p).1 (by simp [hp'])
        have hnot : (anc.getD i 0).testBit p = false := by
          cases hb : (anc.getD i 0).testBit p with
          | false => rfl
          | true =>
            have := hup p hb hm.1
            rw [getD_two (by rw [hR.size]; exact hm.1) false true, hm.2] at this
            cases this
        have := hrel p hp'
        unfold pairOk at this
        split at this
        · rename_i op oi' h1 h2
          rw [hoi] at h2; cases h2
          rw [hnot] at this
          simp only [Bool.or_false, Bool.false_or, Bool.and_eq_true, Bool.not_eq_true'] at this
          exact ⟨hnot, op, h1, this.1.1.1, this.1.1.2⟩
        · cases this
      obtain ⟨_, hst⟩ := pull hoi R1 hR1 hp
      refine step_sound htt hoi hI hst fun s2 hs2 a' w' hI' => ?_
      have hnd : (R1 ++ i :: R2).Nodup := by
        refine (List.Pairwise.imp ?_ hp2 : List.Pairwise (· ≠ ·) _)
        intro p q hpq
        unfold pairOk at hpq
        split at hpq
        · simp only [Bool.and_eq_true, bne_iff_ne] at hpq; exact hpq.2
        · cases hpq
      refine ih (R1 ++ R2) (D.setIfInBounds i true) s2 a' w' (by simp at hn ⊢; omega) ⟨?_, fun j => ?_, by simp [hR.size], fun j x hj hx hxs => ?_⟩ hs2 hI'
      · refine List.Sublist.trans ?_ hR.sub
        exact List.Sublist.append (List.Sublist.refl _) (List.sublist_cons_self i R2)
      · have hmj := hR.mem j
        by_cases hij : i = j
        · subst hij
          have hni : i ∉ R1 ++ R2 := by
            rw [List.nodup_append] at hnd
            have h1 := hnd.2.2
            have h2 := (List.nodup_cons.1 hnd.2.1).1
            intro hin
            rcases List.mem_append.1 hin with g | g
            · exact h1 i g i (by simp) rfl
            · exact h2 g
          refine ⟨fun h => absurd h hni, fun ⟨h1, h2⟩ => ?_⟩
          exfalso
          have : i < D.size := by rw [hR.size]; exact h1
          simp [Array.getD, this] at h2
        · rw [getD_set_ne true hij]
          rw [← hmj]
          simp only [List.mem_append, List.mem_cons]
          constructor
          · rintro (g | g)
            · exact .inl g
            · exact .inr (.inr g)
          · rintro (g | g | g)
            · exact .inl g
            · exact absurd g.symm hij
            · exact .inr g
      · by_cases hij : i = j
        · subst hij
          exact getD_set_true (hup x hx hxs)
        · rw [getD_set_ne false hij] at hj
          exact getD_set_true (hR.clo j x hj hx hxs)

theorem region_draw (hm : P.follows .mixedOrders = true) (htt : TTok P tt) {id : Nat} {plan : List Nat} (hpl : planOk ops anc plan = true) {st : St} {a : Act} {w : World} (hI : InvE c st a w) {Q : Exit → Act → World → Prop} {K : St → Prop}
    (hK : ∀ st', K st' → ∀ a w, InvE c st' a w → Q .normal a w) (h : planOps P tt A ops anc plan [] st K) : (Code.region id ops true).wp P Q a w := by
  refine wp_region_any hm ?_
  have hpl' := hpl
  simp only [planOk, Bool.and_eq_true, beq_iff_eq] at hpl'
  obtain ⟨⟨⟨_, hlen⟩, hall⟩, hlt⟩ := hpl'
  have hI' : InvE c st a w.drew := by
    obtain ⟨F, pl, h⟩ := hI
    exact ⟨F, pl, h.grow (same_drew w)⟩
  refine plan_any hpl htt hK ops.size plan _ st a w.drew hlen ⟨List.Sublist.refl _, fun i => ?_, by simp, fun i x hi _ _ => ?_⟩ h hI'
  · constructor
    · intro hi
      have := List.all_eq_true.1 hlt i hi
      simp only [decide_eq_true_eq] at this
      exact ⟨this, by simp [Array.getD, this]⟩
    · rintro ⟨hi, _⟩
      have := List.all_eq_true.1 hall i (by simpa using hi)
      simpa using this
  · exfalso
    by_cases h : i < ops.size
    · simp [Array.getD, h] at hi
    · simp [Array.getD, h] at hi

/-- In order. -/
def seqOps (P : Program) (tt : TT) (A : Ann) (ops : Array Oper) : List Nat → St → (St → Prop) → Prop
  | [], st, K => K st
  | i :: is, st, K => match ops[i]? with
    | none => False
    | some o => step P tt A ops o st fun st' => seqOps P tt A ops is st' K

theorem seq_sound (htt : TTok P tt) {Q : Exit → Act → World → Prop} {K : St → Prop} (hK : ∀ st', K st' → ∀ a w, InvE c st' a w → Q .normal a w) :
    ∀ (is : List Nat) (st : St) (a : Act) (w : World), seqOps P tt A ops is st K → InvE c st a w → wpOps P ops Q is a w := by
  intro is
  induction is with
  | nil => intro st a w h hI; exact hK st h a w hI
  | cons i is ih =>
    intro st a w h hI
    rw [wpOps_cons]
    unfold seqOps at h
    split at h
    · exact h.elim
    · rename_i o ho
      exact step_sound htt ho hI h fun s hs a' w' hI' => ih s a' w' hs hI'
end
end Go.Eng
