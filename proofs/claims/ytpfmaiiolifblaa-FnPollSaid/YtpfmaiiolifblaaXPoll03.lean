/- A machine of values for the program's code, part 4: the operations that only compute say what the program's do. -/
import Derived.Laws.StructEq
import Derived.Test.YtpfmaiiolifblaaXPoll02
namespace Go.Eng
open Go.RowKit

section sound
variable {P : Program} {tt : TT} {F : Cells} {w : World} {pl : Places} {ρ : Operand → Value} {μ : Operand → V}

theorem TOk.struct {t : TypeId} {fs : List (Nat × TypeId)} {s b : Nat} {z : List Z} {i : TypeInfo} {d : TypeDesc} (h : TOk P t ⟨.struct fs, s, b, z⟩ i d) :
    ∃ fields : Array Field, P.underlying t = some (.struct fields) ∧ ∀ (k off : Nat) (ft : TypeId), fs[k]? = some (off, ft) → ∃ f : Field, fields[k]? = some f ∧ f.offset = off ∧ f.type = ft := by
  have := h.isd
  cases d <;> simp only [TD.is, Bool.false_eq_true] at this
  rename_i fields
  refine ⟨fields, h.und, fun k off ft hk => ?_⟩
  rw [eq_of_beq this] at hk
  simp only [List.getElem?_map, Option.map_eq_some_iff, Array.getElem?_toList] at hk
  obtain ⟨f, hf, he⟩ := hk
  cases he
  exact ⟨f, hf, rfl, rfl⟩

theorem TOk.slice {t e : TypeId} {s b : Nat} {z : List Z} {i : TypeInfo} {d : TypeDesc} (h : TOk P t ⟨.slice e, s, b, z⟩ i d) : P.underlying t = some (.slice e) := by
  have := h.isd
  cases d <;> simp only [TD.is, Bool.false_eq_true] at this
  rw [eq_of_beq this]; exact h.und

theorem TOk.str {t : TypeId} {s b : Nat} {z : List Z} {i : TypeInfo} {d : TypeDesc} (h : TOk P t ⟨.str, s, b, z⟩ i d) : P.underlying t = some .string := by
  have := h.isd
  cases d <;> simp only [TD.is, Bool.false_eq_true] at this
  exact h.und

theorem TOk.int {t : TypeId} {k : IntKind} {s b : Nat} {z : List Z} {i : TypeInfo} {d : TypeDesc} (h : TOk P t ⟨.int k, s, b, z⟩ i d) : P.underlying t = some (.int k) := by
  have := h.isd
  cases d <;> simp only [TD.is, Bool.false_eq_true] at this
  rw [eq_of_beq this]; exact h.und

theorem TOk.bool {t : TypeId} {s b : Nat} {z : List Z} {i : TypeInfo} {d : TypeDesc} (h : TOk P t ⟨.bool, s, b, z⟩ i d) : P.underlying t = some .bool := by
  have := h.isd
  cases d <;> simp only [TD.is, Bool.false_eq_true] at this
  exact h.und

theorem run_eqGuard_plain (op : BinOp) (t : TypeId) (x y : Operand) (a b : Value) (h : a.oneCell' = true) (h2 : a ≠ .nilIface) : (eqGuard op t x y a b).run P w = .ok () w := by
  unfold eqGuard
  cases op <;> cases a <;> simp [Value.oneCell'] at h h2 ⊢

theorem run_equal_of {t : TypeId} {x y : Value} {b : Bool} (h : ∀ d, (Op.equalIn (d + 1) t x y).run P w = .ok b w) : (Op.equal t x y).run P w = .ok b w := h 9999

theorem run_eq_bool {t : TypeId} (hu : P.underlying t = some .bool) (x y : Bool) : (Op.equal t (.bool x) (.bool y)).run P w = .ok (x == y) w :=
  run_equal_of fun d => by simp [Op.equalIn, run_underlying hu, Result.andThen]
theorem run_eq_nil {t e : TypeId} (hu : P.underlying t = some (.slice e)) (a : Option Addr) (l c : Nat) : (Op.equal t (.slice a l c) (.slice none 0 0)).run P w = .ok a.isNone w :=
  run_equal_of fun d => by cases a <;> simp [Op.equalIn, run_underlying hu, Result.andThen]

theorem TOk.structEq {t : TypeId} {fs : List (Nat × TypeId)} {s b : Nat} {z : List Z} {i : TypeInfo} {d : TypeDesc} (h : TOk P t ⟨.struct fs, s, b, z⟩ i d) :
    P.underlying t = some (.struct (P.fieldsOf t)) ∧ fs = (P.fieldsOf t).toList.map (fun f => (f.offset, f.type)) ∧ P.stoodInHeld t = false ∧ (∀ f ∈ (P.fieldsOf t).toList, f.name ≠ "_") ∧ P.eqGuardType P.depth t = false := by
  have h1 := h.isd
  have h2 := h.eqp
  have h3 := h.und
  cases d <;> simp only [TD.is, Bool.false_eq_true] at h1
  rename_i fields
  have e : P.fieldsOf t = fields := by unfold Program.fieldsOf; rw [h3]
  simp only [eqPlain, Bool.and_eq_true, Bool.not_eq_true', List.all_eq_true, bne_iff_ne, ne_eq] at h2
  rw [e]
  exact ⟨h3, eq_of_beq h1, h2.1.1, h2.1.2, h2.2⟩

theorem eqV_sound (htt : TTok P tt) : ∀ (d : Nat) {t : TypeId} {x y : V} {b : Bool}, eqV tt d t x y = some b → ∀ (D : Nat) {cx cy : Value}, RepV F (memOf w) pl x cx → RepV F (memOf w) pl y cy → (Op.equalIn (d + D) t cx cy).run P w = .ok b w
  | 0, _, _, _, _, h, _, _, _, _, _ => by simp [eqV] at h
  | d + 1, t, x, y, b, h, D, cx, cy, hx, hy => by
    unfold eqV at h
    rw [show d + 1 + D = (d + D) + 1 by omega]
    split at h
    · rename_i hti
      cases hx.lit_inv; cases hy.lit_inv
      obtain ⟨i, td, hk⟩ := htt.get hti
      split at h
      · rename_i hkk
        subst hkk
        cases h
        exact run_equalIn_int w _ _ _ _ _ _ hk.int
      · cases h
    · rename_i fs _ _ _ xs ys hti
      obtain ⟨i, td, hk⟩ := htt.get hti
      obtain ⟨g1, g2, g3, g4, _⟩ := hk.structEq
      cases hx with | agg ca ha0 ha1 =>
      cases hy with | agg cb hb0 hb1 =>
      rw [run_equalIn_struct w _ _ _ _ g1 g3]
      rw [g2] at h
      generalize (P.fieldsOf t).toList = fields at h g4
      clear g1 g2 g3 hk hti
      induction fields generalizing b with
      | nil => simp only [List.map_nil, eqFs, Option.some.injEq] at h; subst h; rfl
      | cons f fields ih =>
        simp only [List.map_cons, eqFs] at h
        split at h <;> try contradiction
        rename_i ti hft
        obtain ⟨i2, d2, hk2⟩ := htt.get hft
        split at h <;> try contradiction
        rename_i va vb hva hvb
        split at h <;> try contradiction
        rename_i p q hp hq
        cases h
        obtain ⟨c1, r1, s1⟩ := rep_part (w := w) hk2 ha0 ha1 hva
        obtain ⟨c2, r2, s2⟩ := rep_part (w := w) hk2 hb0 hb1 hvb
        have r3 := eqV_sound htt d hp D s1 s2
        simp only [Op.eqFields]
        rw [if_pos (g4 f List.mem_cons_self)]
        simp only [Sem.run_bind, r1, r2, r3, Result.andThen_ok]
        cases p
        · simp
        · simp only [Bool.not_true, Bool.false_eq_true, if_false, Bool.true_and]
          exact ih _ hq fun g hg => g4 g (List.mem_cons_of_mem _ hg)
    · cases h

theorem binV_sound {op : BinOp} {t : TypeId} {a b : V} {ca cb : Value} {v : V} (htt : TTok P tt) (ha : RepV F (memOf w) pl a ca) (hb : RepV F (memOf w) pl b cb) (x y : Operand)
    (h : binV tt op t a b = some v) : ∃ cv, (eqGuard op t x y ca cb).run P w = .ok () w ∧ (binOp op t ca cb).run P w = .ok cv w ∧ RepV F (memOf w) pl v cv := by
  unfold binV at h
  split at h
  · -- numbers
    rename_i k x' k' y'
    cases ha.lit_inv; cases hb.lit_inv
    refine Exists.imp (fun cv hc => ⟨run_eqGuard_plain _ _ _ _ _ _ rfl (by simp), hc⟩) ?_
    split at h
    · rename_i hs
      cases op <;> simp only [isShift, Bool.false_eq_true] at hs
      all_goals
        simp only [shiftV] at h
        split at h
        · rename_i hy
          cases h
          exact ⟨_, by simp only [binOp, Op.shift]; rw [if_neg (by omega)]; rfl, .lit⟩
        · cases h
    · rename_i hs
      split at h
      · rename_i hk
        subst hk
        cases op <;> simp only [isShift, not_true_eq_false] at hs <;> simp only [intBinV, Option.some.injEq] at h
        case quo =>
          split at h
          · cases h
          · rename_i hy
            cases h
            exact ⟨_, by simp only [binOp, ne_eq, not_true_eq_false, if_false, Op.intDiv]; rw [if_neg hy]; rfl, .lit⟩
        case rem =>
          split at h
          · cases h
          · rename_i hy
            cases h
            exact ⟨_, by simp only [binOp, ne_eq, not_true_eq_false, if_false, Op.intDiv]; rw [if_neg hy]; rfl, .lit⟩
        all_goals
          cases h
          refine ⟨_, ?_, .lit⟩
          simp only [binOp, ne_eq, not_true_eq_false, if_false]
          rfl
      · cases h
  · -- strings
    cases ha.lit_inv; cases hb.lit_inv
    refine Exists.imp (fun cv hc => ⟨run_eqGuard_plain _ _ _ _ _ _ rfl (by simp), hc⟩) ?_
    cases op <;> simp only [strBinV, Option.some.injEq, reduceCtorEq] at h
    case add =>
      split at h
      · cases h
      · rename_i hy
        cases h
        refine ⟨_, ?_, .lit⟩
        simp only [binOp, Op.stringOp]
        rw [if_neg hy]; rfl
    all_goals
      cases h
      exact ⟨_, by simp only [binOp, Op.stringOp]; rfl, .lit⟩
  · -- truth values
    cases ha.lit_inv; cases hb.lit_inv
    refine Exists.imp (fun cv hc => ⟨run_eqGuard_plain _ _ _ _ _ _ rfl (by simp), hc⟩) ?_
    split at h
    · rename_i ht
      obtain ⟨i, d, hk⟩ := htt.get ht
      have hu := hk.bool
      cases op <;> simp only [reduceCtorEq] at h
      all_goals
        cases h
        exact ⟨_, by simp only [binOp, Sem.run_bind, run_eq_bool hu, Result.andThen]; rfl, .lit⟩
    · cases h
  · -- nil slices
    cases ha.lit_inv; cases hb.lit_inv
    refine Exists.imp (fun cv hc => ⟨run_eqGuard_plain _ _ _ _ _ _ rfl (by simp), hc⟩) ?_
    split at h
    · rename_i ht
      obtain ⟨i, d, hk⟩ := htt.get ht
      have hu := hk.slice
      cases op <;> simp only [reduceCtorEq] at h
      all_goals
        cases h
        exact ⟨_, by simp only [binOp, Sem.run_bind, run_eq_nil hu, Result.andThen]; rfl, .lit⟩
    · cases h
  · -- slices that are not nil
    cases ha.lit_inv; cases hb.lit_inv
    refine Exists.imp (fun cv hc => ⟨run_eqGuard_plain _ _ _ _ _ _ rfl (by simp), hc⟩) ?_
    split at h
    · rename_i ht
      obtain ⟨i, d, hk⟩ := htt.get ht
      have hu := hk.slice
      cases op <;> simp only [reduceCtorEq] at h
      all_goals
        cases h
        exact ⟨_, by simp only [binOp, Sem.run_bind, run_eq_nil hu, Result.andThen]; rfl, .lit⟩
    · cases h
  · cases hb.lit_inv
    obtain ⟨p, a', cap, _, _, _, _, _, rfl⟩ := ha.ls_inv
    refine Exists.imp (fun cv hc => ⟨run_eqGuard_plain _ _ _ _ _ _ rfl (by simp), hc⟩) ?_
    split at h
    · rename_i ht
      obtain ⟨i, d, hk⟩ := htt.get ht
      have hu := hk.slice
      cases op <;> simp only [reduceCtorEq] at h
      all_goals
        cases h
        exact ⟨_, by simp only [binOp, Sem.run_bind, run_eq_nil hu, Result.andThen]; rfl, .lit⟩
    · cases h
  · cases hb.lit_inv
    obtain ⟨h0, _⟩ | ⟨a', cap, cf, _, _, _, _, _, rfl⟩ := ha.is_inv
    · cases h0
    refine Exists.imp (fun cv hc => ⟨run_eqGuard_plain _ _ _ _ _ _ rfl (by simp), hc⟩) ?_
    split at h
    · rename_i ht
      obtain ⟨i, d, hk⟩ := htt.get ht
      have hu := hk.slice
      cases op <;> simp only [reduceCtorEq] at h
      all_goals
        cases h
        exact ⟨_, by simp only [binOp, Sem.run_bind, run_eq_nil hu, Result.andThen]; rfl, .lit⟩
    · cases h
  · -- structs
    rename_i xs ys
    have go : ∀ {b : Bool}, eqV tt 8 t (.agg xs) (.agg ys) = some b → (eqGuard op t x y ca cb).run P w = .ok () w ∧ (Op.equalIn 10000 t ca cb).run P w = .ok b w := fun {b} hb' => by
      have := eqV_sound htt 8 hb' 9992 ha hb
      cases ha with | agg ca ha0 ha1 =>
      cases hb with | agg cb hb0 hb1 =>
      refine ⟨run_eqGuard_agg w _ _ _ _ _ _ ?_, this⟩
      unfold eqV at hb'
      split at hb'
      · rename_i h1 _; cases h1
      · rename_i hti _ _
        obtain ⟨i, td, hk⟩ := htt.get hti
        exact hk.structEq.2.2.2.2
      · cases hb'
    cases op <;> simp only [reduceCtorEq] at h
    all_goals
      obtain ⟨b, hb', e⟩ := Option.map_eq_some_iff.1 h
      cases e
      obtain ⟨g1, g2⟩ := go hb'
      cases ha with | agg ca ha0 ha1 =>
      cases hb with | agg cb hb0 hb1 =>
      first
        | exact ⟨_, g1, by rw [run_eql_struct, g2]; rfl, .lit⟩
        | exact ⟨_, g1, by rw [run_neq_struct, g2]; rfl, .lit⟩
  · cases h

theorem unV_sound {op : UnOp} {a : V} {ca : Value} {v : V} (ha : RepV F (memOf w) pl a ca) (h : unV op a = some v) : ∃ cv, (Op.unary op ca).run P w = .ok cv w ∧ RepV F (memOf w) pl v cv := by
  unfold unV at h
  split at h
  all_goals first
    | (cases ha.lit_inv; cases h; exact ⟨_, by simp only [Op.unary]; rfl, .lit⟩)
    | cases h

theorem run_sliceBound {k : IntKind} {i : Int} {y : Nat} {c : BoundsCode} (h : 0 ≤ i ∧ i ≤ (y : Int)) : (Instr.sliceBound (.int k i) y c).run P w = .ok i.toNat w := by
  simp only [Instr.sliceBound, asIntOf, Sem.run_bind, Sem.run_pure, Result.andThen]
  rw [if_pos h]; rfl

theorem bounds_sound {s : Bool} {len cap : Nat} (hc : len ≤ cap) {lo hi mx : Option V} {clo chi cmx : Option Value} {b : Nat × Nat}
    (hlo : ∀ v, lo = some v → ∃ cv, clo = some cv ∧ RepV F (memOf w) pl v cv) (hhi : ∀ v, hi = some v → ∃ cv, chi = some cv ∧ RepV F (memOf w) pl v cv)
    (nlo : lo = none → clo = none) (nhi : hi = none → chi = none) (nmx : mx = none → cmx = none) (h : boundsV len lo hi mx = some b) :
    (Instr.sliceBounds s len cap clo chi cmx).run P w = .ok (b.1, b.2, cap) w ∧ b.1 ≤ b.2 ∧ b.2 ≤ len := by
  unfold boundsV at h
  split at h
  · cases h
  · cases nmx rfl
    split at h
    · rename_i k hh
      obtain ⟨cv, rfl, hr⟩ := hhi _ rfl
      cases hr.lit_inv
      split at h
      · rename_i hb
        split at h
        · rename_i k' ll
          obtain ⟨cv, rfl, hr⟩ := hlo _ rfl
          cases hr.lit_inv
          split at h
          · rename_i hl
            cases h
            refine ⟨?_, by simp; omega, by simp; omega⟩
            have h1 : (0 ≤ hh ∧ hh ≤ (cap : Int)) := ⟨hb.1, by omega⟩
            have h2 : (0 ≤ ll ∧ ll ≤ ((hh.toNat : Nat) : Int)) := ⟨hl.1, by omega⟩
            simp [Instr.sliceBounds, run_sliceBound h1, run_sliceBound h2, Result.andThen]
          · cases h
        · cases nlo rfl
          cases h
          refine ⟨?_, by simp, by simp; omega⟩
          have h1 : (0 ≤ hh ∧ hh ≤ (cap : Int)) := ⟨hb.1, by omega⟩
          simp [Instr.sliceBounds, run_sliceBound h1, Result.andThen]
        · cases h
      · cases h
    · cases nhi rfl
      split at h
      · rename_i k' ll
        obtain ⟨cv, rfl, hr⟩ := hlo _ rfl
        cases hr.lit_inv
        split at h
        · rename_i hl
          cases h
          refine ⟨?_, by simp; omega, by simp⟩
          have h2 : (0 ≤ ll ∧ ll ≤ (len : Int)) := hl
          simp [Instr.sliceBounds, run_sliceBound h2, Result.andThen]
        · cases h
      · cases nlo rfl
        cases h
        exact ⟨by simp [Instr.sliceBounds], by simp, by simp⟩
      · cases h
    · cases h

theorem sliceV_sound {t : TypeId} {x : V} {cx : Value} {lo hi mx : Option V} {clo chi cmx : Option Value} {v : V} (htt : TTok P tt) (hx : RepV F (memOf w) pl x cx)
    (hlo : ∀ v, lo = some v → ∃ cv, clo = some cv ∧ RepV F (memOf w) pl v cv) (hhi : ∀ v, hi = some v → ∃ cv, chi = some cv ∧ RepV F (memOf w) pl v cv)
    (hmx0 : ∀ v, mx = some v → ∃ cv, cmx = some cv ∧ RepV F (memOf w) pl v cv)
    (nlo : lo = none → clo = none) (nhi : hi = none → chi = none) (nmx : mx = none → cmx = none) (h : sliceV tt t x lo hi mx = some v) :
    ∃ cv, (Instr.sliceAt t cx clo chi cmx).run P w = .ok cv w ∧ RepV F (memOf w) pl v cv := by
  by_cases h0 : (isAbsent lo && isZero mx && isZero hi) = true
  · simp only [Bool.and_eq_true] at h0
    obtain ⟨⟨g1, g3⟩, g2⟩ := h0
    have zero : ∀ {o : Option V}, isZero o = true → ∃ k, o = some (.lit (.int k 0)) := by
      intro o ho
      unfold isZero at ho
      split at ho
      · exact ⟨_, rfl⟩
      · cases ho
    have hlo0 : lo = none := by cases lo <;> simp [isAbsent] at g1; rfl
    subst hlo0
    obtain ⟨k1, rfl⟩ := zero g2
    obtain ⟨k2, rfl⟩ := zero g3
    cases nlo rfl
    obtain ⟨c1, rfl, hc1⟩ := hhi _ rfl
    obtain ⟨c2, rfl, hc2⟩ := hmx0 _ rfl
    cases hc1.lit_inv; cases hc2.lit_inv
    have hb : ∀ (len cap : Nat), (Instr.sliceBounds true len cap none (some (.int k1 0)) (some (.int k2 0))).run P w = .ok (0, 0, 0) w := by
      intro len cap
      have b1 : (0 : Int) ≤ 0 ∧ (0 : Int) ≤ (cap : Int) := ⟨by omega, by omega⟩
      have b2 : (0 : Int) ≤ 0 ∧ (0 : Int) ≤ ((0 : Nat) : Int) := ⟨by omega, by omega⟩
      have r1 := run_sliceBound (P := P) (w := w) (k := k2) (c := .slice3Acap) b1
      have r2 := run_sliceBound (P := P) (w := w) (k := k1) (c := .slice3B) b2
      simp [Instr.sliceBounds, r1, r2]
    unfold sliceV at h
    split at h
    · simp [boundsV] at h
    · rename_i ht
      obtain ⟨i, d, hk⟩ := htt.get ht
      split at h
      · rename_i hte
        obtain ⟨i', d', hke⟩ := htt.get hte
        simp only [isAbsent, isZero, Bool.and_self, if_true, Option.some.injEq] at h; subst h
        obtain ⟨_, rfl⟩ | ⟨a, cap, cf, _, _, _, _, _, rfl⟩ := hx.is_inv
        · refine ⟨.slice none 0 0, ?_, .e0n⟩
          simp only [Instr.sliceAt, Sem.run_bind, run_underlying hk.slice, Result.andThen, Instr.slice, hb, hke.sizeOf]
          rfl
        · refine ⟨.slice (some a) 0 0, ?_, .e0⟩
          simp only [Instr.sliceAt, Sem.run_bind, run_underlying hk.slice, Result.andThen, Instr.slice, hb, hke.sizeOf]
          rfl
      · cases h
    · rename_i ht
      obtain ⟨i, d, hk⟩ := htt.get ht
      obtain ⟨p, a, cap, _, _, _, _, _, rfl⟩ := hx.ls_inv
      split at h
      · rename_i hte
        obtain ⟨i', d', hke⟩ := htt.get hte
        simp only [isAbsent, isZero, Bool.and_self, if_true, Option.some.injEq] at h; subst h
        refine ⟨.slice (some a) 0 0, ?_, .e0⟩
        simp only [Instr.sliceAt, Sem.run_bind, run_underlying hk.slice, Result.andThen, Instr.slice, hb, hke.sizeOf]
        rfl
      · cases h
    · split at h <;> simp [boundsV] at h
    · cases h
  have h0' : (isAbsent lo && isZero mx && isZero hi) = false := by simpa using h0
  have hmx : mx = none := by
    cases mx with
    | none => rfl
    | some m =>
      exfalso
      unfold sliceV at h
      simp only [h0', Bool.false_eq_true, if_false] at h
      split at h
      · simp [boundsV] at h
      · split at h
        · split at h <;> simp [boundsV] at h
        · cases h
      · split at h
        · split at h <;> simp [boundsV] at h
        · cases h
      · split at h <;> simp [boundsV] at h
      · cases h
  have cmx0 := nmx hmx
  unfold sliceV at h
  simp only [h0', Bool.false_eq_true, if_false] at h
  split at h
  · rename_i s ht
    obtain ⟨i, d, hk⟩ := htt.get ht
    cases hx.lit_inv
    obtain ⟨b, hb, rfl⟩ := Option.map_eq_some_iff.1 h
    obtain ⟨h1, h2, h3⟩ := bounds_sound (P := P) (s := false) (cap := s.size) (Nat.le_refl _) hlo hhi nlo nhi nmx hb
    subst cmx0
    exact ⟨_, by simp [Instr.sliceAt, run_underlying hk.str, Instr.slice, Result.andThen, h1], .lit⟩
  · rename_i e _ _ _ n es ht
    obtain ⟨i, d, hk⟩ := htt.get ht
    have hu := hk.slice
    split at h
    · rename_i ti hte
      obtain ⟨i', d', hke⟩ := htt.get hte
      split at h
      · rename_i hn
        obtain ⟨b, hb, rfl⟩ := Option.map_eq_some_iff.1 h
        obtain ⟨rfl, rfl⟩ | ⟨a, cap, cf, hcap, hsp, hl, hm, hr, rfl⟩ := hx.is_inv
        · obtain ⟨h1, h2, h3⟩ := bounds_sound (P := P) (s := true) (cap := 0) (Nat.le_refl _) hlo hhi nlo nhi nmx hb
          obtain ⟨l, hi'⟩ := b
          simp only at h1 h2 h3 ⊢
          have e1 : hi' = 0 := by omega
          have e2 : l = 0 := by omega
          subst e1 e2
          have hsz := hke.sizeOf (P := P) w
          refine ⟨.slice none 0 0, ?_, .isn⟩
          simp only [Instr.sliceAt, Sem.run_bind, run_underlying hu, Result.andThen, Instr.slice, h1, hsz]
          rfl
        obtain ⟨h1, h2, h3⟩ := bounds_sound (P := P) (s := true) hcap hlo hhi nlo nhi nmx hb
        obtain ⟨l, hi'⟩ := b
        simp only at h1 h2 h3 ⊢
        have hlen : ((es.drop l).take (hi' - l)).length = hi' - l := by simp; omega
        refine ⟨.slice (some (if cap = l then a else a.add (l * n))) (hi' - l) (cap - l), ?_, ?_⟩
        · have hsz := hke.sizeOf (P := P) w
          simp only [Instr.sliceAt, Sem.run_bind, run_underlying hu, Result.andThen, Instr.slice, h1, hsz, hn]
          by_cases hcl : cap = l
          · simp [hcl]
          · simp [hcl]
        · have key : ∀ a', (es.drop l).take (hi' - l) ≠ [] → a' = (if cap = l then a else a.add (l * n)) → a'.spot = none ∧ a'.block = a.block ∧ a'.off = a.off + l * n := by
            intro a' hne ha'
            have hne' : es ≠ [] := by rintro rfl; simp at hne
            have hcl : cap ≠ l := by
              intro hcl
              apply hne
              apply List.eq_nil_of_length_eq_zero
              omega
            have := hsp hne'
            rw [if_neg hcl] at ha'
            subst ha'
            obtain ⟨ab, ao, asp⟩ := a
            simp at this; subst this
            rw [add_none]; exact ⟨rfl, rfl, rfl⟩
          have hcap' : ((es.drop l).take (hi' - l)).length ≤ cap - l := by omega
          have hget : ∀ (j : Nat) e, ((es.drop l).take (hi' - l))[j]? = some e → es[l + j]? = some e := by
            intro j e he
            simp only [List.getElem?_take, List.getElem?_drop] at he
            split at he
            · exact he
            · cases he
          have hne0 : ∀ (j : Nat) e, ((es.drop l).take (hi' - l))[j]? = some e → (es.drop l).take (hi' - l) ≠ [] := by
            intro j e he h0; rw [h0] at he; simp at he
          have := RepV.is (F := F) (m := memOf w) (pl := pl) (es := (es.drop l).take (hi' - l)) (a := if cap = l then a else a.add (l * n)) (cap := cap - l) (n := n) (fun j c => cf (l + j) c) hcap'
            (fun hne => (key _ hne rfl).1) (fun j e he => hl _ _ (hget j e he)) (fun j e c x he hx => by
              obtain ⟨k1, k2, k3⟩ := key _ (hne0 j e he) rfl
              rw [k2, k3]
              obtain ⟨m1, m2, m3⟩ := hm _ _ c x (hget j e he) hx
              rw [show a.off + l * n + j * n + c = a.off + (l + j) * n + c by rw [Nat.add_mul]; omega]
              exact ⟨m1, m2, m3⟩) (fun j e c x he hx => hr _ _ c x (hget j e he) hx)
          rw [hlen] at this
          exact this
      · cases h
    · cases h
  · rename_i e _ _ _ k n i0 len ht
    obtain ⟨i, d, hk⟩ := htt.get ht
    have hu := hk.slice
    split at h
    · rename_i ti hte
      obtain ⟨i', d', hke⟩ := htt.get hte
      split at h
      · rename_i hn
        obtain ⟨b, hb, rfl⟩ := Option.map_eq_some_iff.1 h
        obtain ⟨p, a, cap, hp, hpn, hlc, hic, ha, rfl⟩ := hx.ls_inv
        obtain ⟨h1, h2, h3⟩ := bounds_sound (P := P) (s := true) hlc hlo hhi nlo nhi nmx hb
        obtain ⟨l, hi'⟩ := b
        simp only at h1 h2 h3 ⊢
        refine ⟨.slice (some (if cap = l then a else a.add (l * n))) (hi' - l) (cap - l), ?_, ?_⟩
        · have hsz := hke.sizeOf (P := P) w
          simp only [Instr.sliceAt, Sem.run_bind, run_underlying hu, Result.andThen, Instr.slice, h1, hsz, hn]
          by_cases hcl : cap = l
          · simp [hcl]
          · simp [hcl]
        · refine .ls hp hpn (by omega) (by omega) (fun hne => ?_)
          have hcl : cap ≠ l := by omega
          rw [if_neg hcl, ha (by omega), add_none, Nat.add_mul]
          congr 1; omega
      · cases h
    · cases h
  · rename_i e _ _ _ ht
    obtain ⟨i, d, hk⟩ := htt.get ht
    have hu := hk.slice
    cases hx.lit_inv
    split at h
    · rename_i ti hte
      obtain ⟨i', d', hke⟩ := htt.get hte
      obtain ⟨b, hb, rfl⟩ := Option.map_eq_some_iff.1 h
      obtain ⟨h1, h2, h3⟩ := bounds_sound (P := P) (s := true) (cap := 0) (Nat.le_refl _) hlo hhi nlo nhi nmx hb
      obtain ⟨l, hi'⟩ := b
      simp only at h1 h2 h3 ⊢
      have e1 : hi' = 0 := by omega
      have e2 : l = 0 := by omega
      subst e1 e2
      have hsz := hke.sizeOf (P := P) w
      refine ⟨.slice none 0 0, ?_, .lit⟩
      simp only [Instr.sliceAt, Sem.run_bind, run_underlying hu, Result.andThen, Instr.slice, h1, hsz]
      rfl
    · cases h
  · cases h
theorem builtinV_sound {b : Builtin} {ts : Array TypeId} {ty : TypeId} {cs : Array Bool} {vs : List V} {cvs : Array Value} {v : V} (htt : TTok P tt) (hs : cvs.size = vs.length)
    (hr : ∀ (i : Nat) x (hi : i < cvs.size), vs[i]? = some x → RepV F (memOf w) pl x cvs[i]) (h : builtinV tt b ts.toList vs = some v) :
    ∃ cv, (builtin b ts ty cs cvs).run P w = .ok (.value cv) w ∧ RepV F (memOf w) pl v cv := by
  have one : ∀ x, vs = [x] → ∃ c, cvs = #[c] ∧ RepV F (memOf w) pl x c := by
    intro x hx
    subst hx
    have h1 : cvs.size = 1 := hs
    refine ⟨cvs[0], ?_, hr 0 x (by omega) rfl⟩
    exact Array.ext (by simp [h1]) (fun i h1 h2 => by simp at h2; subst h2; rfl)
  have two : ∀ x y, vs = [x, y] → ∃ c d, cvs = #[c, d] ∧ RepV F (memOf w) pl x c ∧ RepV F (memOf w) pl y d := by
    intro x y hx
    subst hx
    have h1 : cvs.size = 2 := hs
    refine ⟨cvs[0], cvs[1], ?_, hr 0 x (by omega) rfl, hr 1 y (by omega) rfl⟩
    exact Array.ext (by simp [h1]) (fun i h1 h2 => by
      have : i = 0 ∨ i = 1 := by simp at h2; omega
      rcases this with rfl | rfl <;> rfl)
  have tlen : ∀ {t}, ts.toList = [t] → ts = #[t] := fun {t} h => by rw [← Array.toArray_toList (xs := ts), h]
  unfold builtinV at h
  split at h
  · rename_i t x hts
    obtain ⟨c, rfl, hc⟩ := one _ rfl
    rw [tlen hts]
    unfold lenV at h
    split at h
    · rename_i ht
      obtain ⟨i, d, hk⟩ := htt.get ht
      cases hc.lit_inv; cases h
      exact ⟨_, by simp [builtin, Builtin.len_, run_underlying hk.str, goInt], .lit⟩
    · rename_i ht
      obtain ⟨i, d, hk⟩ := htt.get ht
      obtain ⟨rfl, rfl⟩ | ⟨a, cap, cf, _, _, _, _, _, rfl⟩ := hc.is_inv <;> cases h
      · exact ⟨_, by simp [builtin, Builtin.len_, run_underlying hk.slice, goInt], .lit⟩
      exact ⟨_, by simp [builtin, Builtin.len_, run_underlying hk.slice, goInt], .lit⟩
    · rename_i ht
      obtain ⟨i, d, hk⟩ := htt.get ht
      obtain ⟨p, a, cap, _, _, _, _, _, rfl⟩ := hc.ls_inv; cases h
      exact ⟨_, by simp [builtin, Builtin.len_, run_underlying hk.slice, goInt], .lit⟩
    · rename_i ht
      obtain ⟨i, d, hk⟩ := htt.get ht
      cases hc.lit_inv; cases h
      exact ⟨_, by simp [builtin, Builtin.len_, run_underlying hk.slice, goInt], .lit⟩
    · rename_i ht
      obtain ⟨i, d, hk⟩ := htt.get ht
      obtain ⟨a, rfl⟩ := hc.e0_inv; cases h
      exact ⟨_, by simp [builtin, Builtin.len_, run_underlying hk.slice, goInt], .lit⟩
    · cases h
  · rename_i t x hts
    obtain ⟨c, rfl, hc⟩ := one _ rfl
    rw [tlen hts]
    unfold capV at h
    split at h
    · rename_i ht
      obtain ⟨i, d, hk⟩ := htt.get ht
      cases hc.lit_inv; cases h
      exact ⟨_, by simp [builtin, Builtin.cap_, run_underlying hk.slice, goInt], .lit⟩
    · cases h
  · obtain ⟨c, d, rfl, hc, hd⟩ := two _ _ rfl
    cases hc.lit_inv; cases hd.lit_inv; cases h
    exact ⟨_, by simp [builtin, Builtin.min_, Builtin.min2], .lit⟩
  · obtain ⟨c, d, rfl, hc, hd⟩ := two _ _ rfl
    cases hc.lit_inv; cases hd.lit_inv; cases h
    exact ⟨_, by simp [builtin, Builtin.max_, Builtin.max2], .lit⟩
  · cases h

theorem repMap {l : List Operand} (hρ : ∀ x, RepV F (memOf w) pl (μ x) (ρ x)) (i : Nat) (x : V) (hi : i < (l.map ρ).toArray.size) (hx : (l.map μ)[i]? = some x) : RepV F (memOf w) pl x (l.map ρ).toArray[i] := by
  simp only [List.getElem?_map, Option.map_eq_some_iff] at hx
  obtain ⟨o, ho, rfl⟩ := hx
  obtain ⟨h1, h2⟩ := List.getElem?_eq_some_iff.1 ho
  subst h2
  simpa using hρ _

/-- A load out of memory that nobody changes. -/
theorem run_loadVar_cells {t : TypeId} {ti : TI} {i : TypeInfo} {d : TypeDesc} (hk : TOk P t ti i d) {b o n : Nat} {e : V} {off : Nat} {v : V} {pl' : Places}
    (hn : e.cells.length = n) (hc : ∀ (c : Nat) x, e.cells[c]? = some x → scal x = true ∧ ∃ cv, memOf w b (o + c) = some cv ∧ RepV F (memOf w) pl' x cv) (h : loadV ti e off = some v) :
    ∃ cv, (loadVar t ⟨b, o + off, none⟩).run P w = .ok cv w ∧ RepV F (memOf w) pl' v cv := by
  unfold loadV partV at h
  simp only [loadVar, Sem.run_bind, hk.agg w, Result.andThen]
  split at h
  · rename_i ha
    split at h
    · rename_i hle
      cases h
      simp only [ha, if_true, Sem.run_bind, hk.sizeOf, Result.andThen]
      have hex : ∀ c, c < e.cells.length → ∃ cv, memOf w b (o + c) = some cv ∧ ∀ x, e.cells[c]? = some x → RepV F (memOf w) pl' x cv := by
        intro c hcl
        obtain ⟨_, cv, h1, h2⟩ := hc c _ (List.getElem?_eq_getElem hcl)
        exact ⟨cv, h1, fun x hx => by rw [List.getElem?_eq_getElem hcl] at hx; cases hx; exact h2⟩
      let f : Nat → Value := fun j => (memOf w b (o + off + j)).getD undef
      have hf : ∀ j, j < ti.size → w.cell? ((⟨b, o + off, none⟩ : Addr).add j) = some (f j) := by
        intro j hj
        obtain ⟨cv, h1, _⟩ := hex (off + j) (by omega)
        rw [add_none]
        rw [← Nat.add_assoc] at h1
        simp only [f, h1, Option.getD_some]
        exact h1
      have hl := run_loadCells (P := P) w ⟨b, o + off, none⟩ ti.size f hf
      refine ⟨.agg ((List.range ti.size).map f).toArray, by simp [hl], .agg _ (by simp; omega) (fun j x hj hx => ?_)⟩
      simp only [List.getElem?_take, List.getElem?_drop] at hx
      split at hx
      · rename_i hjs
        obtain ⟨cv, h1, h2⟩ := hex (off + j) (by omega)
        have := h2 x hx
        rw [← Nat.add_assoc] at h1
        simpa [f, h1] using this
      · cases hx
    · cases h
  · rename_i ha
    obtain ⟨_, cv, h1, h2⟩ := hc off v h
    refine ⟨cv, ?_, h2⟩
    simp only [ha, Bool.false_eq_true, if_false]
    rw [run_load, show w.cell? ⟨b, o + off, none⟩ = some cv from h1]
end sound
end Go.Eng
