import Derived.Laws.StructEq
import Derived.Test.YtpfmaiiolifblaaXEng1
import Derived.Laws.IdiomCopy
/- A machine of values for the program's code, part 4: the operations that only compute say what the program's do. -/
namespace Go.Eng
open Go.RowKit

section sound
variable {P : Program} {tt : TT} {F : Cells} {w : World} {pl : Places} {ρ : Operand → Value} {μ : Operand → V}

theorem TOk.struct {t : TypeId} {fs : List (Nat × TypeId)} {s b : Nat} {z : List Z} {i : TypeInfo} {d : TypeDesc} (h : TOk P t ⟨.struct fs, s, b, z⟩ i d) :
    ∃ fields : Array Field, P.underlying t = some (.struct fields) ∧ ∀ (k off : Nat) (ft : TypeId), fs[k]? = some (off, ft) → ∃ f : Field, fields[k]? = some f ∧ f.offset = off ∧ f.type = ft := by
  have := h.isd
  cases d <;> simp only [TD.is, Bool.false_eq_true] at this
  rename_i fields
  refine ⟨fields, h.und, fun k off ft hk => ?_⟩
  rw [eq_of_beq this] at hk
  simp only [List.getElem?_map, Option.map_eq_some_iff, Array.getElem?_toList] at hk
  obtain ⟨f, hf, he⟩ := hk
  cases he
  exact ⟨f, hf, rfl, rfl⟩

theorem TOk.slice {t e : TypeId} {s b : Nat} {z : List Z} {i : TypeInfo} {d : TypeDesc} (h : TOk P t ⟨.slice e, s, b, z⟩ i d) : P.underlying t = some (.slice e) := by
  have := h.isd
  cases d <;> simp only [TD.is, Bool.false_eq_true] at this
  rw [eq_of_beq this]; exact h.und

theorem TOk.str {t : TypeId} {s b : Nat} {z : List Z} {i : TypeInfo} {d : TypeDesc} (h : TOk P t ⟨.str, s, b, z⟩ i d) : P.underlying t = some .string := by
  have := h.isd
  cases d <;> simp only [TD.is, Bool.false_eq_true] at this
  exact h.und

theorem TOk.int {t : TypeId} {k : IntKind} {s b : Nat} {z : List Z} {i : TypeInfo} {d : TypeDesc} (h : TOk P t ⟨.int k, s, b, z⟩ i d) : P.underlying t = some (.int k) := by
  have := h.isd
  cases d <;> simp only [TD.is, Bool.false_eq_true] at this
  rw [eq_of_beq this]; exact h.und

theorem TOk.bool {t : TypeId} {s b : Nat} {z : List Z} {i : TypeInfo} {d : TypeDesc} (h : TOk P t ⟨.bool, s, b, z⟩ i d) : P.underlying t = some .bool := by
  have := h.isd
  cases d <;> simp only [TD.is, Bool.false_eq_true] at this
  exact h.und

theorem run_eqGuard_plain (op : BinOp) (t : TypeId) (x y : Operand) (a b : Value) (h : a.oneCell' = true) (h2 : a ≠ .nilIface) : (eqGuard op t x y a b).run P w = .ok () w := by
  unfold eqGuard
  cases op <;> cases a <;> simp [Value.oneCell'] at h h2 ⊢

theorem run_equal_of {t : TypeId} {x y : Value} {b : Bool} (h : ∀ d, (Op.equalIn (d + 1) t x y).run P w = .ok b w) : (Op.equal t x y).run P w = .ok b w := h 9999

theorem run_eq_bool {t : TypeId} (hu : P.underlying t = some .bool) (x y : Bool) : (Op.equal t (.bool x) (.bool y)).run P w = .ok (x == y) w :=
  run_equal_of fun d => by simp [Op.equalIn, run_underlying hu, Result.andThen]
theorem run_eq_nil {t e : TypeId} (hu : P.underlying t = some (.slice e)) (a : Option Addr) (l c : Nat) : (Op.equal t (.slice a l c) (.slice none 0 0)).run P w = .ok a.isNone w :=
  run_equal_of fun d => by cases a <;> simp [Op.equalIn, run_underlying hu, Result.andThen]

theorem TOk.structEq {t : TypeId} {fs : List (Nat × TypeId)} {s b : Nat} {z : List Z} {i : TypeInfo} {d : TypeDesc} (h : TOk P t ⟨.struct fs, s, b, z⟩ i d) :
    P.underlying t = some (.struct (P.fieldsOf t)) ∧ fs = (P.fieldsOf t).toList.map (fun f => (f.offset, f.type)) ∧ P.stoodInHeld t = false ∧ (∀ f ∈ (P.fieldsOf t).toList, f.name ≠ "_") ∧ P.eqGuardType P.depth t = false := by
  have h1 := h.isd
  have h2 := h.eqp
  have h3 := h.und
  cases d <;> simp only [TD.is, Bool.false_eq_true] at h1
  rename_i fields
  have e : P.fieldsOf t = fields := by unfold Program.fieldsOf; rw [h3]
  simp only [eqPlain, Bool.and_eq_true, Bool.not_eq_true', List.all_eq_true, bne_iff_ne, ne_eq] at h2
  rw [e]
  exact ⟨h3, eq_of_beq h1, h2.1.1, h2.1.2, h2.2⟩

theorem eqV_sound (htt : TTok P tt) : ∀ (d : Nat) {t : TypeId} {x y : V} {b : Bool}, eqV tt d t x y = some b → ∀ (D : Nat) {cx cy : Value}, RepV F (memOf w) pl x cx → RepV F (memOf w) pl y cy → (Op.equalIn (d + D) t cx cy).run P w = .ok b w
  | 0, _, _, _, _, h, _, _, _, _, _ => by simp [eqV] at h
  | d + 1, t, x, y, b, h, D, cx, cy, hx, hy => by
    unfold eqV at h
    rw [show d + 1 + D = (d + D) + 1 by omega]
    split at h
    · rename_i hti
      cases hx.lit_inv; cases hy.lit_inv
      obtain ⟨i, td, hk⟩ := htt.get hti
      split at h
      · rename_i hkk
        subst hkk
        cases h
        exact run_equalIn_int w _ _ _ _ _ _ hk.int
      · cases h
    · rename_i fs _ _ _ xs ys hti
      obtain ⟨i, td, hk⟩ := htt.get hti
      obtain ⟨g1, g2, g3, g4, _⟩ := hk.structEq
      cases hx with | agg ca ha0 ha1 =>
      cases hy with | agg cb hb0 hb1 =>
      rw [run_equalIn_struct w _ _ _ _ g1 g3]
      rw [g2] at h
      generalize (P.fieldsOf t).toList = fields at h g4
      clear g1 g2 g3 hk hti
      induction fields generalizing b with
      | nil => simp only [List.map_nil, eqFs, Option.some.injEq] at h; subst h; rfl
      | cons f fields ih =>
        simp only [List.map_cons, eqFs] at h
        split at h <;> try contradiction
        rename_i ti hft
        obtain ⟨i2, d2, hk2⟩ := htt.get hft
        split at h <;> try contradiction
        rename_i va vb hva hvb
        split at h <;> try contradiction
        rename_i p q hp hq
        cases h
        obtain ⟨c1, r1, s1⟩ := rep_part (w := w) hk2 ha0 ha1 hva
        obtain ⟨c2, r2, s2⟩ := rep_part (w := w) hk2 hb0 hb1 hvb
        have r3 := eqV_sound htt d hp D s1 s2
        simp only [Op.eqFields]
        rw [if_pos (g4 f List.mem_cons_self)]
        simp only [Sem.run_bind, r1, r2, r3, Result.andThen_ok]
        cases p
        · simp
        · simp only [Bool.not_true, Bool.false_eq_true, if_false, Bool.true_and]
          exact ih _ hq fun g hg => g4 g (List.mem_cons_of_mem _ hg)
    · cases h

theorem binV_sound {op : BinOp} {t : TypeId} {a b : V} {ca cb : Value} {v : V} (htt : TTok P tt) (ha : RepV F (memOf w) pl a ca) (hb : RepV F (memOf w) pl b cb) (x y : Operand)
    (h : binV tt op t a b = some v) : ∃ cv, (eqGuard op t x y ca cb).run P w = .ok () w ∧ (binOp op t ca cb).run P w = .ok cv w ∧ RepV F (memOf w) pl v cv := by
  unfold binV at h
  split at h
  · -- numbers
    rename_i k x' k' y'
    cases ha.lit_inv; cases hb.lit_inv
    refine Exists.imp (fun cv hc => ⟨run_eqGuard_plain _ _ _ _ _ _ rfl (by simp), hc⟩) ?_
    split at h
    · rename_i hs
      cases op <;> simp only [isShift, Bool.false_eq_true] at hs
      all_goals
        simp only [shiftV] at h
        split at h
        · rename_i hy
          cases h
          exact ⟨_, by simp only [binOp, Op.shift]; rw [if_neg (by omega)]; rfl, .lit⟩
        · cases h
    · rename_i hs
      split at h
      · rename_i hk
        subst hk
        cases op <;> simp only [isShift, not_true_eq_false] at hs <;> simp only [intBinV, Option.some.injEq] at h
        case quo =>
          split at h
          · cases h
          · rename_i hy
            cases h
            exact ⟨_, by simp only [binOp, ne_eq, not_true_eq_false, if_false, Op.intDiv]; rw [if_neg hy]; rfl, .lit⟩
        case rem =>
          split at h
          · cases h
          · rename_i hy
            cases h
            exact ⟨_, by simp only [binOp, ne_eq, not_true_eq_false, if_false, Op.intDiv]; rw [if_neg hy]; rfl, .lit⟩
        all_goals
          cases h
          refine ⟨_, ?_, .lit⟩
          simp only [binOp, ne_eq, not_true_eq_false, if_false]
          rfl
      · cases h
  · -- strings
    cases ha.lit_inv; cases hb.lit_inv
    refine Exists.imp (fun cv hc => ⟨run_eqGuard_plain _ _ _ _ _ _ rfl (by simp), hc⟩) ?_
    cases op <;> simp only [strBinV, Option.some.injEq, reduceCtorEq] at h
    case add =>
      split at h
      · cases h
      · rename_i hy
        cases h
        refine ⟨_, ?_, .lit⟩
        simp only [binOp, Op.stringOp]
        rw [if_neg hy]; rfl
    all_goals
      cases h
      exact ⟨_, by simp only [binOp, Op.stringOp]; rfl, .lit⟩
  · -- truth values
    cases ha.lit_inv; cases hb.lit_inv
    refine Exists.imp (fun cv hc => ⟨run_eqGuard_plain _ _ _ _ _ _ rfl (by simp), hc⟩) ?_
    split at h
    · rename_i ht
      obtain ⟨i, d, hk⟩ := htt.get ht
      have hu := hk.bool
      cases op <;> simp only [reduceCtorEq] at h
      all_goals
        cases h
        exact ⟨_, by simp only [binOp, Sem.run_bind, run_eq_bool hu, Result.andThen]; rfl, .lit⟩
    · cases h
  · -- nil slices
    cases ha.lit_inv; cases hb.lit_inv
    refine Exists.imp (fun cv hc => ⟨run_eqGuard_plain _ _ _ _ _ _ rfl (by simp), hc⟩) ?_
    split at h
    · rename_i ht
      obtain ⟨i, d, hk⟩ := htt.get ht
      have hu := hk.slice
      cases op <;> simp only [reduceCtorEq] at h
      all_goals
        cases h
        exact ⟨_, by simp only [binOp, Sem.run_bind, run_eq_nil hu, Result.andThen]; rfl, .lit⟩
    · cases h
  · -- slices that are not nil
    cases ha.lit_inv; cases hb.lit_inv
    refine Exists.imp (fun cv hc => ⟨run_eqGuard_plain _ _ _ _ _ _ rfl (by simp), hc⟩) ?_
    split at h
    · rename_i ht
      obtain ⟨i, d, hk⟩ := htt.get ht
      have hu := hk.slice
      cases op <;> simp only [reduceCtorEq] at h
      all_goals
        cases h
        exact ⟨_, by simp only [binOp, Sem.run_bind, run_eq_nil hu, Result.andThen]; rfl, .lit⟩
    · cases h
  · cases hb.lit_inv
    obtain ⟨p, a', cap, _, _, _, _, _, rfl⟩ := ha.ls_inv
    refine Exists.imp (fun cv hc => ⟨run_eqGuard_plain _ _ _ _ _ _ rfl (by simp), hc⟩) ?_
    split at h
    · rename_i ht
      obtain ⟨i, d, hk⟩ := htt.get ht
      have hu := hk.slice
      cases op <;> simp only [reduceCtorEq] at h
      all_goals
        cases h
        exact ⟨_, by simp only [binOp, Sem.run_bind, run_eq_nil hu, Result.andThen]; rfl, .lit⟩
    · cases h
  · cases hb.lit_inv
    obtain ⟨h0, _⟩ | ⟨a', cap, cf, _, _, _, _, _, rfl⟩ := ha.is_inv
    · cases h0
    refine Exists.imp (fun cv hc => ⟨run_eqGuard_plain _ _ _ _ _ _ rfl (by simp), hc⟩) ?_
    split at h
    · rename_i ht
      obtain ⟨i, d, hk⟩ := htt.get ht
      have hu := hk.slice
      cases op <;> simp only [reduceCtorEq] at h
      all_goals
        cases h
        exact ⟨_, by simp only [binOp, Sem.run_bind, run_eq_nil hu, Result.andThen]; rfl, .lit⟩
    · cases h
  · -- structs
    rename_i xs ys
    have go : ∀ {b : Bool}, eqV tt 8 t (.agg xs) (.agg ys) = some b → (eqGuard op t x y ca cb).run P w = .ok () w ∧ (Op.equalIn 10000 t ca cb).run P w = .ok b w := fun {b} hb' => by
      have := eqV_sound htt 8 hb' 9992 ha hb
      cases ha with | agg ca ha0 ha1 =>
      cases hb with | agg cb hb0 hb1 =>
      refine ⟨run_eqGuard_agg w _ _ _ _ _ _ ?_, this⟩
      unfold eqV at hb'
      split at hb'
      · rename_i h1 _; cases h1
      · rename_i hti _ _
        obtain ⟨i, td, hk⟩ := htt.get hti
        exact hk.structEq.2.2.2.2
      · cases hb'
    cases op <;> simp only [reduceCtorEq] at h
    all_goals
      obtain ⟨b, hb', e⟩ := Option.map_eq_some_iff.1 h
      cases e
      obtain ⟨g1, g2⟩ := go hb'
      cases ha with | agg ca ha0 ha1 =>
      cases hb with | agg cb hb0 hb1 =>
      first
        | exact ⟨_, g1, by rw [run_eql_struct, g2]; rfl, .lit⟩
        | exact ⟨_, g1, by rw [run_neq_struct, g2]; rfl, .lit⟩
  · cases h

theorem unV_sound {op : UnOp} {a : V} {ca : Value} {v : V} (ha : RepV F (memOf w) pl a ca) (h : unV op a = some v) : ∃ cv, (Op.unary op ca).run P w = .ok cv w ∧ RepV F (memOf w) pl v cv := by
  unfold unV at h
  split at h
  all_goals first
    | (cases ha.lit_inv; cases h; exact ⟨_, by simp only [Op.unary]; rfl, .lit⟩)
    | cases h

theorem run_sliceBound {k : IntKind} {i : Int} {y : Nat} {c : BoundsCode} (h : 0 ≤ i ∧ i ≤ (y : Int)) : (Instr.sliceBound (.int k i) y c).run P w = .ok i.toNat w := by
  simp only [Instr.sliceBound, asIntOf, Sem.run_bind, Sem.run_pure, Result.andThen]
  rw [if_pos h]; rfl

theorem bounds_sound {s : Bool} {len cap : Nat} (hc : len ≤ cap) {lo hi mx : Option V} {clo chi cmx : Option Value} {b : Nat × Nat}
    (hlo : ∀ v, lo = some v → ∃ cv, clo = some cv ∧ RepV F (memOf w) pl v cv) (hhi : ∀ v, hi = some v → ∃ cv, chi = some cv ∧ RepV F (memOf w) pl v cv)
    (nlo : lo = none → clo = none) (nhi : hi = none → chi = none) (nmx : mx = none → cmx = none) (h : boundsV len lo hi mx = some b) :
    (Instr.sliceBounds s len cap clo chi cmx).run P w = .ok (b.1, b.2, cap) w ∧ b.1 ≤ b.2 ∧ b.2 ≤ len := by
  unfold boundsV at h
  split at h
  · cases h
  · cases nmx rfl
    split at h
    · rename_i k hh
      obtain ⟨cv, rfl, hr⟩ := hhi _ rfl
      cases hr.lit_inv
      split at h
      · rename_i hb
        split at h
        · rename_i k' ll
          obtain ⟨cv, rfl, hr⟩ := hlo _ rfl
          cases hr.lit_inv
          split at h
          · rename_i hl
            cases h
            refine ⟨?_, by simp; omega, by simp; omega⟩
            have h1 : (0 ≤ hh ∧ hh ≤ (cap : Int)) := ⟨hb.1, by omega⟩
            have h2 : (0 ≤ ll ∧ ll ≤ ((hh.toNat : Nat) : Int)) := ⟨hl.1, by omega⟩
            simp [Instr.sliceBounds, run_sliceBound h1, run_sliceBound h2, Result.andThen]
          · cases h
        · cases nlo rfl
          cases h
          refine ⟨?_, by simp, by simp; omega⟩
          have h1 : (0 ≤ hh ∧ hh ≤ (cap : Int)) := ⟨hb.1, by omega⟩
          simp [Instr.sliceBounds, run_sliceBound h1, Result.andThen]
        · cases h
      · cases h
    · cases nhi rfl
      split at h
      · rename_i k' ll
        obtain ⟨cv, rfl, hr⟩ := hlo _ rfl
        cases hr.lit_inv
        split at h
        · rename_i hl
          cases h
          refine ⟨?_, by simp; omega, by simp⟩
          have h2 : (0 ≤ ll ∧ ll ≤ (len : Int)) := hl
          simp [Instr.sliceBounds, run_sliceBound h2, Result.andThen]
        · cases h
      · cases nlo rfl
        cases h
        exact ⟨by simp [Instr.sliceBounds], by simp, by simp⟩
      · cases h
    · cases h

theorem sliceV_sound {t : TypeId} {x : V} {cx : Value} {lo hi mx : Option V} {clo chi cmx : Option Value} {v : V} (htt : TTok P tt) (hx : RepV F (memOf w) pl x cx)
    (hlo : ∀ v, lo = some v → ∃ cv, clo = some cv ∧ RepV F (memOf w) pl v cv) (hhi : ∀ v, hi = some v → ∃ cv, chi = some cv ∧ RepV F (memOf w) pl v cv)
    (hmx0 : ∀ v, mx = some v → ∃ cv, cmx = some cv ∧ RepV F (memOf w) pl v cv)
    (nlo : lo = none → clo = none) (nhi : hi = none → chi = none) (nmx : mx = none → cmx = none) (h : sliceV tt t x lo hi mx = some v) :
    ∃ cv, (Instr.sliceAt t cx clo chi cmx).run P w = .ok cv w ∧ RepV F (memOf w) pl v cv := by
  by_cases h0 : (isAbsent lo && isZero mx && isZero hi) = true
  · simp only [Bool.and_eq_true] at h0
    obtain ⟨⟨g1, g3⟩, g2⟩ := h0
    have zero : ∀ {o : Option V}, isZero o = true → ∃ k, o = some (.lit (.int k 0)) := by
      intro o ho
      unfold isZero at ho
      split at ho
      · exact ⟨_, rfl⟩
      · cases ho
    have hlo0 : lo = none := by cases lo <;> simp [isAbsent] at g1; rfl
    subst hlo0
    obtain ⟨k1, rfl⟩ := zero g2
    obtain ⟨k2, rfl⟩ := zero g3
    cases nlo rfl
    obtain ⟨c1, rfl, hc1⟩ := hhi _ rfl
    obtain ⟨c2, rfl, hc2⟩ := hmx0 _ rfl
    cases hc1.lit_inv; cases hc2.lit_inv
    have hb : ∀ (len cap : Nat), (Instr.sliceBounds true len cap none (some (.int k1 0)) (some (.int k2 0))).run P w = .ok (0, 0, 0) w := by
      intro len cap
      have b1 : (0 : Int) ≤ 0 ∧ (0 : Int) ≤ (cap : Int) := ⟨by omega, by omega⟩
      have b2 : (0 : Int) ≤ 0 ∧ (0 : Int) ≤ ((0 : Nat) : Int) := ⟨by omega, by omega⟩
      have r1 := run_sliceBound (P := P) (w := w) (k := k2) (c := .slice3Acap) b1
      have r2 := run_sliceBound (P := P) (w := w) (k := k1) (c := .slice3B) b2
      simp [Instr.sliceBounds, r1, r2]
    unfold sliceV at h
    split at h
    · simp [boundsV] at h
    · rename_i ht
      obtain ⟨i, d, hk⟩ := htt.get ht
      split at h
      · rename_i hte
        obtain ⟨i', d', hke⟩ := htt.get hte
        simp only [isAbsent, isZero, Bool.and_self, if_true, Option.some.injEq] at h; subst h
        obtain ⟨_, rfl⟩ | ⟨a, cap, cf, _, _, _, _, _, rfl⟩ := hx.is_inv
        · refine ⟨.slice none 0 0, ?_, .e0n⟩
          simp only [Instr.sliceAt, Sem.run_bind, run_underlying hk.slice, Result.andThen, Instr.slice, hb, hke.sizeOf]
          rfl
        · refine ⟨.slice (some a) 0 0, ?_, .e0⟩
          simp only [Instr.sliceAt, Sem.run_bind, run_underlying hk.slice, Result.andThen, Instr.slice, hb, hke.sizeOf]
          rfl
      · cases h
    · rename_i ht
      obtain ⟨i, d, hk⟩ := htt.get ht
      obtain ⟨p, a, cap, _, _, _, _, _, rfl⟩ := hx.ls_inv
      split at h
      · rename_i hte
        obtain ⟨i', d', hke⟩ := htt.get hte
        simp only [isAbsent, isZero, Bool.and_self, if_true, Option.some.injEq] at h; subst h
        refine ⟨.slice (some a) 0 0, ?_, .e0⟩
        simp only [Instr.sliceAt, Sem.run_bind, run_underlying hk.slice, Result.andThen, Instr.slice, hb, hke.sizeOf]
        rfl
      · cases h
    · split at h <;> simp [boundsV] at h
    · cases h
  have h0' : (isAbsent lo && isZero mx && isZero hi) = false := by simpa using h0
  have hmx : mx = none := by
    cases mx with
    | none => rfl
    | some m =>
      exfalso
      unfold sliceV at h
      simp only [h0', Bool.false_eq_true, if_false] at h
      split at h
      · simp [boundsV] at h
      · split at h
        · split at h <;> simp [boundsV] at h
        · cases h
      · split at h
        · split at h <;> simp [boundsV] at h
        · cases h
      · split at h <;> simp [boundsV] at h
      · cases h
  have cmx0 := nmx hmx
  unfold sliceV at h
  simp only [h0', Bool.false_eq_true, if_false] at h
  split at h
  · rename_i s ht
    obtain ⟨i, d, hk⟩ := htt.get ht
    cases hx.lit_inv
    obtain ⟨b, hb, rfl⟩ := Option.map_eq_some_iff.1 h
    obtain ⟨h1, h2, h3⟩ := bounds_sound (P := P) (s := false) (cap := s.size) (Nat.le_refl _) hlo hhi nlo nhi nmx hb
    subst cmx0
    exact ⟨_, by simp [Instr.sliceAt, run_underlying hk.str, Instr.slice, Result.andThen, h1], .lit⟩
  · rename_i e _ _ _ n es ht
    obtain ⟨i, d, hk⟩ := htt.get ht
    have hu := hk.slice
    split at h
    · rename_i ti hte
      obtain ⟨i', d', hke⟩ := htt.get hte
      split at h
      · rename_i hn
        obtain ⟨b, hb, rfl⟩ := Option.map_eq_some_iff.1 h
        obtain ⟨rfl, rfl⟩ | ⟨a, cap, cf, hcap, hsp, hl, hm, hr, rfl⟩ := hx.is_inv
        · obtain ⟨h1, h2, h3⟩ := bounds_sound (P := P) (s := true) (cap := 0) (Nat.le_refl _) hlo hhi nlo nhi nmx hb
          obtain ⟨l, hi'⟩ := b
          simp only at h1 h2 h3 ⊢
          have e1 : hi' = 0 := by omega
          have e2 : l = 0 := by omega
          subst e1 e2
          have hsz := hke.sizeOf (P := P) w
          refine ⟨.slice none 0 0, ?_, .isn⟩
          simp only [Instr.sliceAt, Sem.run_bind, run_underlying hu, Result.andThen, Instr.slice, h1, hsz]
          rfl
        obtain ⟨h1, h2, h3⟩ := bounds_sound (P := P) (s := true) hcap hlo hhi nlo nhi nmx hb
        obtain ⟨l, hi'⟩ := b
        simp only at h1 h2 h3 ⊢
        have hlen : ((es.drop l).take (hi' - l)).length = hi' - l := by simp; omega
        refine ⟨.slice (some (if cap = l then a else a.add (l * n))) (hi' - l) (cap - l), ?_, ?_⟩
        · have hsz := hke.sizeOf (P := P) w
          simp only [Instr.sliceAt, Sem.run_bind, run_underlying hu, Result.andThen, Instr.slice, h1, hsz, hn]
          by_cases hcl : cap = l
          · simp [hcl]
          · simp [hcl]
        · have key : ∀ a', (es.drop l).take (hi' - l) ≠ [] → a' = (if cap = l then a else a.add (l * n)) → a'.spot = none ∧ a'.block = a.block ∧ a'.off = a.off + l * n := by
            intro a' hne ha'
            have hne' : es ≠ [] := by rintro rfl; simp at hne
            have hcl : cap ≠ l := by
              intro hcl
              apply hne
              apply List.eq_nil_of_length_eq_zero
              omega
            have := hsp hne'
            rw [if_neg hcl] at ha'
            subst ha'
            obtain ⟨ab, ao, asp⟩ := a
            simp at this; subst this
            rw [add_none]; exact ⟨rfl, rfl, rfl⟩
          have hcap' : ((es.drop l).take (hi' - l)).length ≤ cap - l := by omega
          have hget : ∀ (j : Nat) e, ((es.drop l).take (hi' - l))[j]? = some e → es[l + j]? = some e := by
            intro j e he
            simp only [List.getElem?_take, List.getElem?_drop] at he
            split at he
            · exact he
            · cases he
          have hne0 : ∀ (j : Nat) e, ((es.drop l).take (hi' - l))[j]? = some e → (es.drop l).take (hi' - l) ≠ [] := by
            intro j e he h0; rw [h0] at he; simp at he
          have := RepV.is (F := F) (m := memOf w) (pl := pl) (es := (es.drop l).take (hi' - l)) (a := if cap = l then a else a.add (l * n)) (cap := cap - l) (n := n) (fun j c => cf (l + j) c) hcap'
            (fun hne => (key _ hne rfl).1) (fun j e he => hl _ _ (hget j e he)) (fun j e c x he hx => by
              obtain ⟨k1, k2, k3⟩ := key _ (hne0 j e he) rfl
              rw [k2, k3]
              obtain ⟨m1, m2, m3⟩ := hm _ _ c x (hget j e he) hx
              rw [show a.off + l * n + j * n + c = a.off + (l + j) * n + c by rw [Nat.add_mul]; omega]
              exact ⟨m1, m2, m3⟩) (fun j e c x he hx => hr _ _ c x (hget j e he) hx)
          rw [hlen] at this
          exact this
      · cases h
    · cases h
  · rename_i e _ _ _ k n i0 len ht
    obtain ⟨i, d, hk⟩ := htt.get ht
    have hu := hk.slice
    split at h
    · rename_i ti hte
      obtain ⟨i', d', hke⟩ := htt.get hte
      split at h
      · rename_i hn
        obtain ⟨b, hb, rfl⟩ := Option.map_eq_some_iff.1 h
        obtain ⟨p, a, cap, hp, hpn, hlc, hic, ha, rfl⟩ := hx.ls_inv
        obtain ⟨h1, h2, h3⟩ := bounds_sound (P := P) (s := true) hlc hlo hhi nlo nhi nmx hb
        obtain ⟨l, hi'⟩ := b
        simp only at h1 h2 h3 ⊢
        refine ⟨.slice (some (if cap = l then a else a.add (l * n))) (hi' - l) (cap - l), ?_, ?_⟩
        · have hsz := hke.sizeOf (P := P) w
          simp only [Instr.sliceAt, Sem.run_bind, run_underlying hu, Result.andThen, Instr.slice, h1, hsz, hn]
          by_cases hcl : cap = l
          · simp [hcl]
          · simp [hcl]
        · refine .ls hp hpn (by omega) (by omega) (fun hne => ?_)
          have hcl : cap ≠ l := by omega
          rw [if_neg hcl, ha (by omega), add_none, Nat.add_mul]
          congr 1; omega
      · cases h
    · cases h
  · rename_i e _ _ _ ht
    obtain ⟨i, d, hk⟩ := htt.get ht
    have hu := hk.slice
    cases hx.lit_inv
    split at h
    · rename_i ti hte
      obtain ⟨i', d', hke⟩ := htt.get hte
      obtain ⟨b, hb, rfl⟩ := Option.map_eq_some_iff.1 h
      obtain ⟨h1, h2, h3⟩ := bounds_sound (P := P) (s := true) (cap := 0) (Nat.le_refl _) hlo hhi nlo nhi nmx hb
      obtain ⟨l, hi'⟩ := b
      simp only at h1 h2 h3 ⊢
      have e1 : hi' = 0 := by omega
      have e2 : l = 0 := by omega
      subst e1 e2
      have hsz := hke.sizeOf (P := P) w
      refine ⟨.slice none 0 0, ?_, .lit⟩
      simp only [Instr.sliceAt, Sem.run_bind, run_underlying hu, Result.andThen, Instr.slice, h1, hsz]
      rfl
    · cases h
  · cases h
theorem builtinV_sound {b : Builtin} {ts : Array TypeId} {ty : TypeId} {cs : Array Bool} {vs : List V} {cvs : Array Value} {v : V} (htt : TTok P tt) (hs : cvs.size = vs.length)
    (hr : ∀ (i : Nat) x (hi : i < cvs.size), vs[i]? = some x → RepV F (memOf w) pl x cvs[i]) (h : builtinV tt b ts.toList vs = some v) :
    ∃ cv, (builtin b ts ty cs cvs).run P w = .ok (.value cv) w ∧ RepV F (memOf w) pl v cv := by
  have one : ∀ x, vs = [x] → ∃ c, cvs = #[c] ∧ RepV F (memOf w) pl x c := by
    intro x hx
    subst hx
    have h1 : cvs.size = 1 := hs
    refine ⟨cvs[0], ?_, hr 0 x (by omega) rfl⟩
    exact Array.ext (by simp [h1]) (fun i h1 h2 => by simp at h2; subst h2; rfl)
  have two : ∀ x y, vs = [x, y] → ∃ c d, cvs = #[c, d] ∧ RepV F (memOf w) pl x c ∧ RepV F (memOf w) pl y d := by
    intro x y hx
    subst hx
    have h1 : cvs.size = 2 := hs
    refine ⟨cvs[0], cvs[1], ?_, hr 0 x (by omega) rfl, hr 1 y (by omega) rfl⟩
    exact Array.ext (by simp [h1]) (fun i h1 h2 => by
      have : i = 0 ∨ i = 1 := by simp at h2; omega
      rcases this with rfl | rfl <;> rfl)
  have tlen : ∀ {t}, ts.toList = [t] → ts = #[t] := fun {t} h => by rw [← Array.toArray_toList (xs := ts), h]
  unfold builtinV at h
  split at h
  · rename_i t x hts
    obtain ⟨c, rfl, hc⟩ := one _ rfl
    rw [tlen hts]
    unfold lenV at h
    split at h
    · rename_i ht
      obtain ⟨i, d, hk⟩ := htt.get ht
      cases hc.lit_inv; cases h
      exact ⟨_, by simp [builtin, Builtin.len_, run_underlying hk.str, goInt], .lit⟩
    · rename_i ht
      obtain ⟨i, d, hk⟩ := htt.get ht
      obtain ⟨rfl, rfl⟩ | ⟨a, cap, cf, _, _, _, _, _, rfl⟩ := hc.is_inv <;> cases h
      · exact ⟨_, by simp [builtin, Builtin.len_, run_underlying hk.slice, goInt], .lit⟩
      exact ⟨_, by simp [builtin, Builtin.len_, run_underlying hk.slice, goInt], .lit⟩
    · rename_i ht
      obtain ⟨i, d, hk⟩ := htt.get ht
      obtain ⟨p, a, cap, _, _, _, _, _, rfl⟩ := hc.ls_inv; cases h
      exact ⟨_, by simp [builtin, Builtin.len_, run_underlying hk.slice, goInt], .lit⟩
    · rename_i ht
      obtain ⟨i, d, hk⟩ := htt.get ht
      cases hc.lit_inv; cases h
      exact ⟨_, by simp [builtin, Builtin.len_, run_underlying hk.slice, goInt], .lit⟩
    · rename_i ht
      obtain ⟨i, d, hk⟩ := htt.get ht
      obtain ⟨a, rfl⟩ := hc.e0_inv; cases h
      exact ⟨_, by simp [builtin, Builtin.len_, run_underlying hk.slice, goInt], .lit⟩
    · cases h
  · rename_i t x hts
    obtain ⟨c, rfl, hc⟩ := one _ rfl
    rw [tlen hts]
    unfold capV at h
    split at h
    · rename_i ht
      obtain ⟨i, d, hk⟩ := htt.get ht
      cases hc.lit_inv; cases h
      exact ⟨_, by simp [builtin, Builtin.cap_, run_underlying hk.slice, goInt], .lit⟩
    · cases h
  · obtain ⟨c, d, rfl, hc, hd⟩ := two _ _ rfl
    cases hc.lit_inv; cases hd.lit_inv; cases h
    exact ⟨_, by simp [builtin, Builtin.min_, Builtin.min2], .lit⟩
  · obtain ⟨c, d, rfl, hc, hd⟩ := two _ _ rfl
    cases hc.lit_inv; cases hd.lit_inv; cases h
    exact ⟨_, by simp [builtin, Builtin.max_, Builtin.max2], .lit⟩
  · cases h

theorem repMap {l : List Operand} (hρ : ∀ x, RepV F (memOf w) pl (μ x) (ρ x)) (i : Nat) (x : V) (hi : i < (l.map ρ).toArray.size) (hx : (l.map μ)[i]? = some x) : RepV F (memOf w) pl x (l.map ρ).toArray[i] := by
  simp only [List.getElem?_map, Option.map_eq_some_iff] at hx
  obtain ⟨o, ho, rfl⟩ := hx
  obtain ⟨h1, h2⟩ := List.getElem?_eq_some_iff.1 ho
  subst h2
  simpa using hρ _

/-- A load out of memory that nobody changes. -/
theorem run_loadVar_cells {t : TypeId} {ti : TI} {i : TypeInfo} {d : TypeDesc} (hk : TOk P t ti i d) {b o n : Nat} {e : V} {off : Nat} {v : V} {pl' : Places}
    (hn : e.cells.length = n) (hc : ∀ (c : Nat) x, e.cells[c]? = some x → scal x = true ∧ ∃ cv, memOf w b (o + c) = some cv ∧ RepV F (memOf w) pl' x cv) (h : loadV ti e off = some v) :
    ∃ cv, (loadVar t ⟨b, o + off, none⟩).run P w = .ok cv w ∧ RepV F (memOf w) pl' v cv := by
  unfold loadV partV at h
  simp only [loadVar, Sem.run_bind, hk.agg w, Result.andThen]
  split at h
  · rename_i ha
    split at h
    · rename_i hle
      cases h
      simp only [ha, if_true, Sem.run_bind, hk.sizeOf, Result.andThen]
      have hex : ∀ c, c < e.cells.length → ∃ cv, memOf w b (o + c) = some cv ∧ ∀ x, e.cells[c]? = some x → RepV F (memOf w) pl' x cv := by
        intro c hcl
        obtain ⟨_, cv, h1, h2⟩ := hc c _ (List.getElem?_eq_getElem hcl)
        exact ⟨cv, h1, fun x hx => by rw [List.getElem?_eq_getElem hcl] at hx; cases hx; exact h2⟩
      let f : Nat → Value := fun j => (memOf w b (o + off + j)).getD undef
      have hf : ∀ j, j < ti.size → w.cell? ((⟨b, o + off, none⟩ : Addr).add j) = some (f j) := by
        intro j hj
        obtain ⟨cv, h1, _⟩ := hex (off + j) (by omega)
        rw [add_none]
        rw [← Nat.add_assoc] at h1
        simp only [f, h1, Option.getD_some]
        exact h1
      have hl := run_loadCells (P := P) w ⟨b, o + off, none⟩ ti.size f hf
      refine ⟨.agg ((List.range ti.size).map f).toArray, by simp [hl], .agg _ (by simp; omega) (fun j x hj hx => ?_)⟩
      simp only [List.getElem?_take, List.getElem?_drop] at hx
      split at hx
      · rename_i hjs
        obtain ⟨cv, h1, h2⟩ := hex (off + j) (by omega)
        have := h2 x hx
        rw [← Nat.add_assoc] at h1
        simpa [f, h1] using this
      · cases hx
    · cases h
  · rename_i ha
    obtain ⟨_, cv, h1, h2⟩ := hc off v h
    refine ⟨cv, ?_, h2⟩
    simp only [ha, Bool.false_eq_true, if_false]
    rw [run_load, show w.cell? ⟨b, o + off, none⟩ = some cv from h1]
end sound
end Go.Eng

/- A machine of values for the program's code, part 5: an operation that only computes does what the machine says. -/
namespace Go.Eng
open Go.RowKit

section sound
variable {P : Program} {tt : TT} {F : Cells} {w : World} {pl : Places} {ρ : Operand → Value} {μ : Operand → V}

theorem optMap (hρ : ∀ x, RepV F (memOf w) pl (μ x) (ρ x)) (lo : Option Operand) : (∀ v, lo.map μ = some v → ∃ cv, lo.map ρ = some cv ∧ RepV F (memOf w) pl v cv) ∧ (lo.map μ = none → lo.map ρ = none) := by
  cases lo with
  | none => exact ⟨fun v h => by simp at h, fun _ => rfl⟩
  | some x => exact ⟨fun v h => ⟨ρ x, rfl, by simp at h; exact h ▸ hρ x⟩, fun h => by simp at h⟩

theorem TOk.struct' {t : TypeId} {fs : List (Nat × TypeId)} {s b : Nat} {z : List Z} {i : TypeInfo} {d : TypeDesc} (h : TOk P t ⟨.struct fs, s, b, z⟩ i d) :
    ∃ fields : Array Field, P.underlying t = some (.struct fields) ∧ (∀ (k off : Nat) (ft : TypeId), fs[k]? = some (off, ft) → ∃ f : Field, fields[k]? = some f ∧ f.offset = off ∧ f.type = ft) ∧
      ∀ (k : Nat) (f : Field), fields[k]? = some f → fs[k]? = some (f.offset, f.type) := by
  have := h.isd
  cases d <;> simp only [TD.is, Bool.false_eq_true] at this
  rename_i fields
  refine ⟨fields, h.und, fun k off ft hk => ?_, fun k f hk => ?_⟩
  · rw [eq_of_beq this] at hk
    simp only [List.getElem?_map, Option.map_eq_some_iff, Array.getElem?_toList] at hk
    obtain ⟨f, hf, he⟩ := hk
    cases he
    exact ⟨f, hf, rfl, rfl⟩
  · rw [eq_of_beq this]
    simp [hk]

theorem run_places (l : List Field) (h : ∀ f ∈ l, ∃ i, P.info? f.type = some i) :
    (l.mapM (fun f => do pure (f.offset, ← sizeOf f.type) : Field → Sem (Nat × Nat))).run P w = .ok (l.map fun f => (f.offset, P.cellsOf f.type)) w := by
  induction l with
  | nil => rfl
  | cons f t ih =>
    obtain ⟨i, hi⟩ := h f (by simp)
    have ih' := ih (fun f hf => h f (by simp [hf]))
    simp only [bind_pure_comp] at ih'
    simp [List.mapM_cons, run_sizeOf w hi, ih']

theorem pureF_sound (htt : TTok P tt) (hρ : ∀ x, RepV F (memOf w) pl (μ x) (ρ x)) (o : Oper) {v : V} (h : pureF tt o.op μ = some v) :
    ∃ cv, (execOp ρ o).run P w = .ok (.value cv) w ∧ RepV F (memOf w) pl v cv := by
  obtain ⟨dst, op, ty, pos, after, guard⟩ := o
  simp only at h
  cases op
  case move x => simp only [pureF, Option.some.injEq] at h; subst h; exact ⟨_, rfl, hρ x⟩
  case assign x => simp only [pureF, Option.some.injEq] at h; subst h; exact ⟨_, rfl, hρ x⟩
  case pick c a b =>
    simp only [pureF] at h
    have hc := hρ c
    split at h
    · rename_i cb hm
      rw [hm] at hc
      have := hc.lit_inv
      split at h
      · rename_i hcb; cases h
        exact ⟨ρ a, by simp [execOp, this, asBool, hcb], hρ a⟩
      · rename_i hcb; cases h
        have : cb = false := by simpa using hcb
        subst this
        exact ⟨ρ b, by simp [execOp, hc.lit_inv, asBool], hρ b⟩
    · cases h
  case build t parts =>
    simp only [pureF] at h
    split at h
    · rename_i ti hti
      split at h
      · rename_i fs hfs
        split at h <;> try contradiction
        rename_i hall
        obtain ⟨i, d, hk⟩ := htt.get hti
        obtain ⟨cs, hcs, rfl⟩ := Option.map_eq_some_iff.1 h
        obtain ⟨td, tsz, tby, tz⟩ := ti
        simp only at hfs hcs
        subst hfs
        obtain ⟨fields, hu, hf⟩ := hk.struct'
        have hz := hk.zeroValue (P := P) w
        have hmap := run_places (P := P) (w := w) fields.toList (fun f hfm => by
          obtain ⟨n, hn1, hn2⟩ := List.getElem_of_mem hfm
          have := hf.2 n f (by rw [← Array.getElem?_toList]; exact List.getElem?_eq_some_iff.2 ⟨hn1, hn2⟩)
          have h1 := List.all_eq_true.1 hall _ (List.mem_of_getElem? this)
          obtain ⟨fi, hfi⟩ := Option.isSome_iff_exists.1 h1
          obtain ⟨i2, d2, hk2⟩ := htt.get hfi
          exact ⟨_, hk2.info⟩)
        have hmap2 : (fields.mapM (fun f => do pure (f.offset, ← sizeOf f.type) : Field → Sem (Nat × Nat))).run P w = .ok (fields.toList.map fun f => (f.offset, P.cellsOf f.type)).toArray w := by
          rw [Array.mapM_eq_mapM_toList]
          rw [map_eq_pure_bind, Sem.run_bind, hmap]
          rfl
        obtain ⟨ca', hca, hsz, hr⟩ := run_fill (F := F) (m := memOf w) (pl := pl) (ρ := ρ) (μ := μ) (placeC := fun i => ((fields.toList.map fun f => (f.offset, P.cellsOf f.type)).toArray)[i]?) (place := placeV tt fs) (fun i x hx => by
            unfold placeV at hx
            split at hx <;> try contradiction
            rename_i off ft hff
            obtain ⟨fi, hfi, rfl⟩ := Option.map_eq_some_iff.1 hx
            obtain ⟨fl, hfl, rfl, rfl⟩ := hf.1 i off ft hff
            obtain ⟨i2, d2, hk2⟩ := htt.get hfi
            have : P.cellsOf fl.type = fi.size := by simp [Program.cellsOf, hk2.info, hk2.size]
            simp [hfl, this]) parts.toList (cells := tz.map fun z => .lit z.val) (ca := (tz.map Z.val).toArray) (by simp)
          (fun i x hi hx => repL (tz.map Z.val) i x hi (by simpa [List.map_map] using hx)) hρ hcs
        refine ⟨.agg ca', ?_, .agg _ hsz hr⟩
        have hzc : (TI.zeroVal ⟨.struct fs, tsz, tby, tz⟩).cells = (tz.map Z.val).toArray := rfl
        have hpl : (parts.map fun x => (x.1, ρ x.2)).toList = parts.toList.map fun p => (p.1, ρ p.2) := by simp
        simp only [execOp, Instr.build, Sem.run_bind, hz, Result.andThen, run_underlying hu, hzc, hmap2, hpl, hca]
        rfl
      · cases h
    · cases h
  case nilCheck x =>
    simp only [pureF] at h
    have hx := hρ x
    split at h
    · rename_i hm; rw [hm] at hx; cases h
      obtain ⟨p, _, _, e⟩ := hx.lp_inv
      exact ⟨ρ x, by simp [execOp, e], hx⟩
    · rename_i hm; rw [hm] at hx; cases h
      obtain ⟨b, base, cf, _, _, _, e⟩ := hx.ip_inv
      exact ⟨ρ x, by simp [execOp, e], hx⟩
    · rename_i hm; rw [hm] at hx; cases h
      obtain ⟨cs, e, _, _⟩ := hx.fn_inv
      exact ⟨ρ x, by simp [execOp, e], hx⟩
    · cases h
  case load t a =>
    simp only [pureF] at h
    have hx := hρ a
    split at h
    · rename_i ti n es i off hti hm
      rw [hm] at hx
      split at h
      · rename_i e he
        obtain ⟨ii, d, hk⟩ := htt.get hti
        obtain ⟨b, base, cf, h1, h2, h3, e'⟩ := hx.ip_inv
        obtain ⟨cv, k1, k2⟩ := run_loadVar_cells (P := P) (w := w) (F := F) hk (b := b) (o := base + i * n) (pl' := noPl) (h1 i e he) (fun c x hx => ⟨(h2 i e c x he hx).1, cf i c, (h2 i e c x he hx).2.2, h3 i e c x he hx⟩) h
        exact ⟨cv, by simp [execOp, Instr.loadAt, e', Instr.sureAddr, k1], k2.ofNo⟩
      · cases h
    · cases h
  case unOp op t x =>
    simp only [pureF] at h
    obtain ⟨cv, h1, h2⟩ := unV_sound (P := P) (hρ x) h
    exact ⟨cv, by simp [execOp, h1], h2⟩
  case binOp op t x y yt =>
    simp only [pureF] at h
    obtain ⟨cv, h1, h2, h3⟩ := binV_sound (P := P) htt (hρ x) (hρ y) x y h
    exact ⟨cv, by simp [execOp, h1, h2], h3⟩
  case convert src dst x =>
    simp only [pureF] at h
    have hx := hρ x
    split at h
    · rename_i ht1 ht2 hm
      rw [hm] at hx
      obtain ⟨i1, d1, hk1⟩ := htt.get ht1
      obtain ⟨i2, d2, hk2⟩ := htt.get ht2
      have := hx.lit_inv
      cases h
      exact ⟨_, by simp [execOp, convert, run_underlying hk1.int, run_underlying hk2.int, this, Conv.intToInt], .lit⟩
    · rename_i ht1 ht2 hm
      rw [hm] at hx
      obtain ⟨i1, d1, hk1⟩ := htt.get ht1
      obtain ⟨i2, d2, hk2⟩ := htt.get ht2
      have := hx.lit_inv
      cases h
      exact ⟨_, by simp [execOp, convert, run_underlying hk1.str, run_underlying hk2.str, this], .lit⟩
    · cases h
  case makeFunc fn first cap =>
    cases fn <;> simp only [pureF, reduceCtorEq] at h
    split at h
    · rename_i f h0
      cases h
      have : first = #[] := by simpa using h0
      subst this
      refine ⟨.func (.func f) #[] (cap.map ρ), by simp [execOp, Instr.makeFunc], .fn _ (by simp) (fun i x hi hx => ?_)⟩
      have := repMap (F := F) (w := w) (pl := pl) (l := cap.toList) hρ i x (by simpa using hi) hx
      simpa using this
    · cases h
  case slice t x lo hi mx =>
    simp only [pureF] at h
    obtain ⟨cv, h1, h2⟩ := sliceV_sound (P := P) htt (hρ x) (optMap hρ lo).1 (optMap hρ hi).1 (optMap hρ mx).1 (optMap hρ lo).2 (optMap hρ hi).2 (optMap hρ mx).2 h
    exact ⟨cv, by simp [execOp, h1], h2⟩
  case fieldAddr s x f =>
    simp only [pureF] at h
    have hx := hρ x
    split at h <;> try contradiction
    rename_i fs sz by_ z hts
    obtain ⟨i, d, hk⟩ := htt.get hts
    obtain ⟨fields, hu, hf⟩ := hk.struct
    split at h <;> try contradiction
    rename_i off ft hff
    obtain ⟨fl, hfl, rfl, rfl⟩ := hf f off ft hff
    split at h <;> try contradiction
    rename_i fi hfi
    obtain ⟨i2, d2, hk2⟩ := htt.get hfi
    split at h
    · cases h
    · rename_i hz
      have hsz := hk2.sizeOf (P := P) w
      split at h
      · rename_i hm; rw [hm] at hx; cases h
        obtain ⟨p, hp, hn, e⟩ := hx.lp_inv
        rename_i k n ii oo
        refine ⟨.pointer (some ⟨p.b, p.base + ii * n + (oo + fl.offset), none⟩), by simp [execOp, Instr.fieldAt, run_underlying hu, hfl, e, Instr.sureAddr, fieldPlace, hsz, hz, add_none, Nat.add_assoc], .lp hp hn⟩
      · rename_i hm; rw [hm] at hx; cases h
        obtain ⟨b, base, cf, h1, h2, h3, e⟩ := hx.ip_inv
        rename_i n es ii oo
        refine ⟨.pointer (some ⟨b, base + ii * n + (oo + fl.offset), none⟩), by simp [execOp, Instr.fieldAt, run_underlying hu, hfl, e, Instr.sureAddr, fieldPlace, hsz, hz, add_none, Nat.add_assoc], .ip cf h1 h2 h3⟩
      · cases h
  case field s x f =>
    simp only [pureF] at h
    have hx := hρ x
    split at h <;> try contradiction
    rename_i fs sz by_ z hts
    obtain ⟨i, d, hk⟩ := htt.get hts
    obtain ⟨fields, hu, hf⟩ := hk.struct
    split at h <;> try contradiction
    rename_i off ft hff
    obtain ⟨fl, hfl, rfl, rfl⟩ := hf f off ft hff
    split at h <;> try contradiction
    rename_i fi hfi
    obtain ⟨i2, d2, hk2⟩ := htt.get hfi
    split at h <;> try contradiction
    rename_i hm; rw [hm] at hx
    obtain ⟨cs, e, h1, h2⟩ := hx.agg_inv
    obtain ⟨cv, k1, k2⟩ := rep_part (P := P) (w := w) hk2 h1 h2 h
    exact ⟨cv, by simp [execOp, Instr.field, run_underlying hu, hfl, e, asAgg, k1], k2⟩
  case indexAddr t x ix =>
    simp only [pureF] at h
    have hx := hρ x
    have hi := hρ ix
    split at h <;> try contradiction
    rename_i e sz by_ z hts
    obtain ⟨i, d, hk⟩ := htt.get hts
    have hu := hk.slice
    split at h <;> try contradiction
    rename_i ei hei
    obtain ⟨i2, d2, hk2⟩ := htt.get hei
    have hsz := hk2.sizeOf (P := P) w
    split at h <;> try contradiction
    · rename_i n es k ii hm hmi
      rw [hm] at hx; rw [hmi] at hi
      have e1 := hi.lit_inv
      split at h <;> try contradiction
      rename_i hb
      obtain ⟨hb1, hb2, hb3⟩ := hb
      cases h
      obtain ⟨h0, _⟩ | ⟨a, cap, cf, hcap, hsp, h1, h2, h3, e2⟩ := hx.is_inv
      · rw [h0] at hb3; simp at hb3; omega
      have hne : es ≠ [] := by rintro rfl; simp at hb3; omega
      obtain ⟨ab, ao, asp⟩ := a
      have := hsp hne; simp at this; subst this
      refine ⟨.pointer (some ⟨ab, ao + ii.toNat * n + 0, none⟩), ?_, .ip cf h1 h2 h3⟩
      simp [execOp, Instr.indexAt, e1, e2, asIntOf, run_underlying hu, hsz, hb1, hb2, hb3, add_none]
    · rename_i k n i0 len kk ii hm hmi
      rw [hm] at hx; rw [hmi] at hi
      have e1 := hi.lit_inv
      obtain ⟨p, a, cap, hp, hn, hlc, hic, ha, e2⟩ := hx.ls_inv
      split at h <;> try contradiction
      rename_i hb
      obtain ⟨hb1, hb2, hb3⟩ := hb
      cases h
      have ha' := ha (by omega)
      subst ha'
      refine ⟨.pointer (some ⟨p.b, p.base + (i0 + ii.toNat) * n + 0, none⟩), ?_, .lp hp hn⟩
      simp [execOp, Instr.indexAt, e1, e2, asIntOf, run_underlying hu, hsz, hb1, hb2, hb3, add_none, Nat.add_mul, Nat.add_assoc]
  case index t x ix =>
    simp only [pureF] at h
    have hx := hρ x
    have hi := hρ ix
    split at h <;> try contradiction
    rename_i sz by_ z s k ii hts hm hmi
    obtain ⟨i, d, hk⟩ := htt.get hts
    rw [hm] at hx; rw [hmi] at hi
    have e1 := hi.lit_inv
    have e2 := hx.lit_inv
    split at h <;> try contradiction
    rename_i b hb
    cases h
    refine ⟨_, ?_, .lit⟩
    simp only [execOp, Instr.index, e1, e2, asIntOf, Sem.run_bind, Sem.run_pure, Result.andThen, run_underlying hk.str, hb]
  case extract x i =>
    simp only [pureF] at h
    have hx := hρ x
    split at h <;> try contradiction
    rename_i vs hm
    rw [hm] at hx
    obtain ⟨cs, e, h1, h2⟩ := hx.tup_inv
    obtain ⟨hl, _⟩ := List.getElem?_eq_some_iff.1 h
    have hl' : i < cs.size := by omega
    exact ⟨cs[i], by simp [execOp, Instr.extract, e, hl'], h2 i v hl' h⟩
  case call c =>
    obtain ⟨callee, args, argTypes⟩ := c
    cases callee <;> simp only [pureF, reduceCtorEq] at h
    rename_i b
    obtain ⟨cv, h1, h2⟩ := builtinV_sound (P := P) (F := F) (w := w) (pl := pl) (ty := ty) (cs := args.map fun | .const _ => true | _ => false) (cvs := args.map ρ) htt (by simp)
      (fun i x hi hx => by
        have := repMap (F := F) (w := w) (pl := pl) (l := args.toList) hρ i x (by simpa using hi) hx
        simpa using this) h
    exact ⟨cv, by simp only [execOp, resolve, Sem.run_bind, Sem.run_pure, Result.andThen, invoke]; exact h1, h2⟩
  all_goals (simp only [pureF, reduceCtorEq] at h)
end sound
end Go.Eng

/- A machine of values for the program's code, part 6: how a state and what it says of the memory go on when the memory changes. -/
namespace Go.Eng
open Go.RowKit

theorem memOf_lt {w : World} {b o : Nat} (h : (memOf w b o).isSome) : b < w.heap.size := by
  unfold memOf World.cell? at h
  rcases Nat.lt_or_ge b w.heap.size with h' | h'
  · exact h'
  · simp [h'] at h

theorem pl_has {p : Pl} {n j c : Nat} (hn : p.n = n) {len : Nat} (hl : len ≤ p.C) (hj : j < len) (hc : c < n) : p.has p.b (p.base + j * n + c) := by
  refine ⟨rfl, by omega, ?_⟩
  subst hn
  have : (j + 1) * p.n ≤ p.C * p.n := Nat.mul_le_mul_right _ (by omega)
  rw [Nat.add_mul] at this
  omega

theorem RepE.turn {F F' : Cells} {m m' : Mem} {pl pl' : Places} {b o n : Nat} {e : V} (h : RepE F m pl b o n e) (hF : ∀ b o, F b o → F' b o ∧ m' b o = m b o)
    (hpl : ∀ k p, pl k = some p → pl' k = some p) (hc : ∀ c, c < n → m' b (o + c) = m b (o + c)) : RepE F' m' pl' b o n e := by
  refine ⟨h.1, fun c x hx => ?_⟩
  obtain ⟨h1, cv, h2, h3⟩ := h.2 c x hx
  refine ⟨h1, cv, ?_, h3.mono hF hpl⟩
  rw [hc c (by rw [← h.1]; exact (List.getElem?_eq_some_iff.1 hx).1)]
  exact h2

theorem plc_mono {kf : Bool} {pl pl' : Places} (hpl : ∀ k p, pl k = some p → pl' k = some p) : ∀ k p, Obj.plc kf pl k = some p → Obj.plc kf pl' k = some p := by
  intro k p h
  unfold Obj.plc at *
  split at h
  · exact absurd h (by simp [noPl])
  · rename_i hk; simp only [hk]; exact hpl k p h

theorem RepO.turn {F F' : Cells} {m m' : Mem} {fz fz' : Cells} {pl pl' : Places} {p : Pl} {x : Obj} (h : RepO F m fz pl p x) (hF : ∀ b o, F b o → F' b o ∧ m' b o = m b o)
    (hpl : ∀ k p, pl k = some p → pl' k = some p) (hl : x.live = true → ∀ o, p.has p.b o → m' p.b o = m p.b o ∧ (fz' p.b o → fz p.b o) ∧ ¬ F' p.b o) : RepO F' m' fz' pl' p x := by
  cases x with
  | dead => trivial
  | arr kf n es =>
    obtain ⟨h1, h2, h3, h4, h5⟩ := h
    have hl := hl rfl
    refine ⟨h1, h2, h3, fun o ho => ?_, fun j e he => ?_⟩
    · obtain ⟨k1, k2, k3⟩ := hl o ho
      obtain ⟨g1, g2, g3⟩ := h4 o ho
      exact ⟨by rw [k1]; exact g1, fun hf => g2 (k2 hf), k3⟩
    · have hj := (List.getElem?_eq_some_iff.1 he).1
      exact (h5 j e he).turn hF (plc_mono hpl) (fun c hc => (hl _ (pl_has h1 h3 hj hc)).1)
  | froz n es =>
    obtain ⟨h1, h2, h3, h4⟩ := h
    refine ⟨h1, h2, h3, fun j e he => ?_⟩
    obtain ⟨k1, k2⟩ := h4 j e he
    exact ⟨k1.turn hF (fun _ _ h => h) (fun c hc => (hF _ _ (k2 c hc)).2), fun c hc => (hF _ _ (k2 c hc)).1⟩

/-- What every step of the memory gives: the cells that change (Z) are none that somebody trusts not to. -/
theorem WR.turn {F F' : Cells} {pl pl' : Places} {ob ob' : Store} {w w' : World} {Z : Cells} (h : WR F pl ob w) (hs : Same Z w w') (hZF : ∀ b o, F b o → ¬ Z b o)
    (hF : ∀ b o, F b o → F' b o) (hFe : ∀ b o, F' b o → F b o ∨ (memOf w' b o).isSome) (hpl : ∀ k p, pl k = some p → pl' k = some p)
    (hob : ∀ l x, ob' l = some x → (ob l = some x ∧ (x.live = true → ∀ p o, pl l = some p → p.has p.b o → ¬ Z p.b o ∧ ¬ F' p.b o)) ∨ (∃ p, pl' l = some p ∧ RepO F' (memOf w') (frozOf w') pl' p x))
    (hnon : ∀ k, ob' k = none → pl' k = none)
    (hdis : ∀ k l x y p q b o, k ≠ l → ob' k = some x → ob' l = some y → x.live = true → y.live = true → pl' k = some p → pl' l = some q → p.has b o → q.has b o → False) : WR F' pl' ob' w' := by
  have hFm : ∀ b o, F b o → F' b o ∧ memOf w' b o = memOf w b o := fun b o hf => ⟨hF b o hf, hs.cell b o (memOf_lt (h.fex b o hf)) (hZF b o hf)⟩
  refine ⟨fun k x hk => ?_, hnon, hdis, fun b o hf => ?_⟩
  · rcases hob k x hk with ⟨h1, h2⟩ | h1
    · obtain ⟨p, hp, hr⟩ := h.rep k x h1
      refine ⟨p, hpl k p hp, hr.turn hFm hpl (fun hl o ho => ?_)⟩
      obtain ⟨g1, g2⟩ := h2 hl p o hp ho
      have hex : (memOf w p.b o).isSome := by
        cases x <;> simp [Obj.live] at hl
        exact (hr.2.2.2.1 o ho).1
      have hlt := memOf_lt hex
      exact ⟨hs.cell _ _ hlt g1, (hs.froz _ _ hlt g1).1, g2⟩
    · exact h1
  · rcases hFe b o hf with h1 | h1
    · rw [(hFm b o h1).2]; exact h.fex b o h1
    · exact h1

theorem Inv.turn {c : Ctx} {F F' : Cells} {pl pl' : Places} {st : St} {a : Act} {w w' : World} {ob' : Store} {Z : Cells} (h : Inv c F pl st a w) (hs : Same Z w w')
    (hZF : ∀ b o, F b o → ¬ Z b o) (hZm : ∀ b o, Z b o → b < w.heap.size → c.mine b o) (hF : ∀ b o, F b o → F' b o) (hFm : ∀ b o, F' b o → F b o ∨ c.mine b o)
    (hpl : ∀ k p, pl k = some p → pl' k = some p) (hwr : WR F' pl' ob' w')
    (hown : ∀ k x p b o, ob' k = some x → x.live = true → pl' k = some p → p.has b o → c.mine b o) (harg : ∀ (k : Key) p, k.1 = 0 → pl' k = some p → pl k = some p) : Inv c F' pl' { st with ob := ob' } a w' := by
  have hFm' : ∀ b o, F b o → F' b o ∧ memOf w' b o = memOf w b o := fun b o hf => ⟨hF b o hf, hs.cell b o (memOf_lt (h.wr.fex b o hf)) (hZF b o hf)⟩
  refine ⟨h.defers, fun i v hi => ?_, hwr, fun b o hf => hF b o (h.f0 b o hf), fun b o hf => ?_, hown, ?_, fun k p h0 hp => h.arg k p h0 (harg k p h0 hp)⟩
  · obtain ⟨h1, h2⟩ := h.tm i v hi
    exact ⟨h1, h2.mono hFm' hpl⟩
  · rcases hFm b o hf with h1 | h1
    · exact h.ff b o h1
    · exact .inr h1
  · have hn : ∀ b o, b < c.w0.heap.size → ¬ c.X0 b o → ¬ Z b o := fun b o hb hx hz => by
      rcases hZm b o hz (Nat.lt_of_lt_of_le hb h.same.size) with h1 | h1
      · exact hx h1
      · omega
    exact ⟨hs.os.trans h.same.os, hs.tape.trans h.same.tape, hs.output.trans h.same.output, Nat.le_trans h.same.size hs.size,
      fun b o hb hx => (hs.cell b o (Nat.lt_of_lt_of_le hb h.same.size) (hn b o hb hx)).trans (h.same.cell b o hb hx),
      fun b o hb hx => (hs.froz b o (Nat.lt_of_lt_of_le hb h.same.size) (hn b o hb hx)).trans (h.same.froz b o hb hx),
      fun b hb hx => (hs.blk b (Nat.lt_of_lt_of_le hb h.same.size) fun o => hn b o hb (hx o)).trans (h.same.blk b hb hx)⟩

def noCells : Cells := fun _ _ => False

/-- A new block. -/
theorem same_alloc (w : World) (cs : Array Value) (e : TypeId) : Same noCells w (w.alloc (.cells cs e)) := by
  refine ⟨rfl, rfl, rfl, by simp, fun b o hb _ => ?_, fun b o hb _ => ?_, fun b hb _ => heap_alloc_old w _ _ hb⟩
  · simp only [memOf, World.cell?, heap_alloc_old w _ _ hb]
  · simp only [frozOf, World.frozen?, heap_alloc_old w _ _ hb]

theorem mem_alloc (w : World) (cs : Array Value) (e : TypeId) (o : Nat) : memOf (w.alloc (.cells cs e)) w.heap.size o = cs[o]? := by
  simp only [memOf, World.cell?, heap_alloc_new w]
  rfl

theorem froz_alloc (w : World) (cs : Array Value) (e : TypeId) (o : Nat) : ¬ frozOf (w.alloc (.cells cs e)) w.heap.size o := by
  simp only [frozOf, World.frozen?, heap_alloc_new w]
  simp

theorem same_drew (w : World) : Same noCells w w.drew := ⟨rfl, rfl, rfl, Nat.le_refl _, fun _ _ _ _ => rfl, fun _ _ _ _ => Iff.rfl, fun _ _ _ => rfl⟩

/-- A world in which only new blocks and draws stand before the old one. -/
theorem Inv.grow {c : Ctx} {F : Cells} {pl : Places} {st : St} {a : Act} {w w' : World} (h : Inv c F pl st a w) (hs : Same noCells w w') : Inv c F pl st a w' :=
  h.turn (F' := F) (pl' := pl) (ob' := st.ob) hs (fun _ _ _ h => h) (fun _ _ h => h.elim) (fun _ _ h => h) (fun _ _ h => .inl h) (fun _ _ h => h)
    (h.wr.turn hs (fun _ _ _ h => h) (fun _ _ h => h) (fun _ _ h => .inl h) (fun _ _ h => h) (fun l x hl => .inl ⟨hl, fun hv p o hp ho => ⟨fun h => h, by
      obtain ⟨q, hq, hr⟩ := h.wr.rep l x hl
      cases hp.symm.trans hq
      cases x <;> simp [Obj.live] at hv
      exact (hr.2.2.2.1 o ho).2.2⟩⟩) h.wr.non h.wr.dis) h.own (fun _ _ _ h => h)

def Store.set (ob : Store) (k : Key) (x : Obj) : Store := fun l => if l = k then some x else ob l
def Places.set (pl : Places) (k : Key) (p : Pl) : Places := fun l => if l = k then some p else pl l

theorem Store.set_self (ob : Store) (k : Key) (x : Obj) : ob.set k x k = some x := by simp [Store.set]
theorem Store.set_ne (ob : Store) {k l : Key} (x : Obj) (h : l ≠ k) : ob.set k x l = ob l := by simp [Store.set, h]
theorem Places.set_self (pl : Places) (k : Key) (p : Pl) : pl.set k p k = some p := by simp [Places.set]
theorem Places.set_ne (pl : Places) {k l : Key} (p : Pl) (h : l ≠ k) : pl.set k p l = pl l := by simp [Places.set, h]

theorem live_lt {F : Cells} {pl : Places} {ob : Store} {w : World} (h : WR F pl ob w) {k : Key} {x : Obj} {p : Pl} {b o : Nat} (hk : ob k = some x) (hl : x.live = true) (hp : pl k = some p) (ho : p.has b o) :
    (memOf w b o).isSome ∧ ¬ frozOf w b o ∧ ¬ F b o := by
  obtain ⟨q, hq, hr⟩ := h.rep k x hk
  cases hp.symm.trans hq
  cases x <;> simp [Obj.live] at hl
  have := ho.1; subst this
  exact hr.2.2.2.1 o ho

/-- A new object in new memory. -/
theorem Inv.make {c : Ctx} {F : Cells} {pl : Places} {st : St} {a : Act} {w : World} (h : Inv c F pl st a w) {k : Key} (hk0 : k.1 ≠ 0) (hk : st.ob k = none) (kf : Bool) {n C : Nat} (hn : 0 < n) {es : List V}
    (hle : es.length ≤ C) {cs : Array Value} (hcs : cs.size = C * n) (e : TypeId)
    (hr : ∀ (j : Nat) x, es[j]? = some x → x.cells.length = n ∧ ∀ (c : Nat) y, x.cells[c]? = some y → scal y = true ∧ ∃ cv, cs[j * n + c]? = some cv ∧ RepV F (memOf w) (Obj.plc kf pl) y cv) :
    Inv c F (pl.set k ⟨w.heap.size, 0, n, C⟩) { st with ob := st.ob.set k (.arr kf n es) } a (w.alloc (.cells cs e)) := by
  have hpk : pl k = none := h.wr.non k hk
  have hs := same_alloc w cs e
  have hpl : ∀ l p, pl l = some p → pl.set k ⟨w.heap.size, 0, n, C⟩ l = some p := fun l p hl => by
    rw [Places.set_ne]; exact hl
    rintro rfl; rw [hpk] at hl; cases hl
  have hFm : ∀ b o, F b o → F b o ∧ memOf (w.alloc (.cells cs e)) b o = memOf w b o := fun b o hf => ⟨hf, hs.cell b o (memOf_lt (h.wr.fex b o hf)) id⟩
  refine h.turn (F' := F) hs (fun _ _ _ h => h) (fun _ _ h => h.elim) (fun _ _ h => h) (fun _ _ h => .inl h) hpl ?_ ?_ (fun l q h0 hq => by
    rw [Places.set_ne _ _ (by rintro rfl; exact hk0 h0)] at hq; exact hq)
  · refine h.wr.turn hs (fun _ _ _ h => h) (fun _ _ h => h) (fun _ _ h => .inl h) hpl (fun l x hl => ?_) (fun l hl => ?_) ?_
    · by_cases hlk : l = k
      · subst hlk
        rw [Store.set_self] at hl; cases hl
        refine .inr ⟨_, Places.set_self _ _ _, rfl, hn, hle, fun o ho => ⟨?_, froz_alloc w cs e o, fun hf => ?_⟩, fun j x hx => ?_⟩
        · rw [mem_alloc]
          obtain ⟨_, _, h3⟩ := ho
          simp only [Nat.zero_add] at h3
          simp [hcs, h3]
        · have := memOf_lt (h.wr.fex _ _ hf); exact absurd this (Nat.lt_irrefl _)
        · obtain ⟨h1, h2⟩ := hr j x hx
          refine ⟨h1, fun c y hy => ?_⟩
          obtain ⟨g1, cv, g2, g3⟩ := h2 c y hy
          exact ⟨g1, cv, by rw [mem_alloc]; simpa using g2, g3.mono hFm (plc_mono hpl)⟩
      · rw [Store.set_ne _ _ hlk] at hl
        exact .inl ⟨hl, fun hv p o hp ho => ⟨fun h => h, (live_lt h.wr hl hv hp ho).2.2⟩⟩
    · by_cases hlk : l = k
      · subst hlk; rw [Store.set_self] at hl; cases hl
      · rw [Store.set_ne _ _ hlk] at hl; rw [Places.set_ne _ _ hlk]; exact h.wr.non l hl
    · intro l1 l2 x y p q b o hne h1 h2 hx hy hp hq hpo hqo
      by_cases e1 : l1 = k
      · subst e1
        rw [Places.set_self] at hp; cases hp
        have e2 : l2 ≠ l1 := Ne.symm hne
        rw [Store.set_ne _ _ e2] at h2; rw [Places.set_ne _ _ e2] at hq
        have := memOf_lt (live_lt h.wr h2 hy hq hqo).1
        have := hpo.1; simp at this; omega
      · rw [Store.set_ne _ _ e1] at h1; rw [Places.set_ne _ _ e1] at hp
        by_cases e2 : l2 = k
        · subst e2
          rw [Places.set_self] at hq; cases hq
          have := memOf_lt (live_lt h.wr h1 hx hp hpo).1
          have := hqo.1; simp at this; omega
        · rw [Store.set_ne _ _ e2] at h2; rw [Places.set_ne _ _ e2] at hq
          exact h.wr.dis l1 l2 x y p q b o hne h1 h2 hx hy hp hq hpo hqo
  · intro l x p b o hl hx hp ho
    by_cases e1 : l = k
    · subst e1
      rw [Places.set_self] at hp; cases hp
      have := ho.1; simp at this; subst this
      exact .inr h.same.size
    · rw [Store.set_ne _ _ e1] at hl; rw [Places.set_ne _ _ e1] at hp
      exact h.own l x p b o hl hx hp ho

/-- An object's content is written anew, in its own cells. -/
theorem Inv.rewrite {c : Ctx} {F : Cells} {pl : Places} {st : St} {a : Act} {w w' : World} (h : Inv c F pl st a w) {k : Key} {kf : Bool} {n : Nat} {es es' : List V} {p : Pl}
    (hk : st.ob k = some (.arr kf n es)) (hp : pl k = some p) (hs : Same p.has w w') (hex : ∀ o, p.has p.b o → (memOf w' p.b o).isSome ∧ ¬ frozOf w' p.b o) (hle : es'.length ≤ p.C)
    (hr : ∀ (j : Nat) x, es'[j]? = some x → x.cells.length = n ∧ ∀ (c : Nat) y, x.cells[c]? = some y → scal y = true ∧ ∃ cv, memOf w' p.b (p.base + j * n + c) = some cv ∧ RepV F (memOf w) (Obj.plc kf pl) y cv) :
    Inv c F pl { st with ob := st.ob.set k (.arr kf n es') } a w' := by
  obtain ⟨q, hq, hro⟩ := h.wr.rep k _ hk
  cases hp.symm.trans hq
  obtain ⟨r1, r2, r3, r4, r5⟩ := hro
  have hZF : ∀ b o, F b o → ¬ p.has b o := fun b o hf hh => by have := hh.1; subst this; exact (r4 o hh).2.2 hf
  have hFm : ∀ b o, F b o → F b o ∧ memOf w' b o = memOf w b o := fun b o hf => ⟨hf, hs.cell b o (memOf_lt (h.wr.fex b o hf)) (hZF b o hf)⟩
  refine h.turn (F' := F) hs hZF (fun b o hz _ => h.own k _ p b o hk rfl hp hz) (fun _ _ h => h) (fun _ _ h => .inl h) (fun _ _ h => h) ?_ ?_ (fun _ _ _ h => h)
  · refine h.wr.turn hs hZF (fun _ _ h => h) (fun _ _ h => .inl h) (fun _ _ h => h) (fun l x hl => ?_) (fun l hl => ?_) ?_
    · by_cases hlk : l = k
      · subst hlk
        rw [Store.set_self] at hl; cases hl
        refine .inr ⟨p, hp, r1, r2, hle, fun o ho => ⟨(hex o ho).1, (hex o ho).2, (r4 o ho).2.2⟩, fun j x hx => ?_⟩
        obtain ⟨h1, h2⟩ := hr j x hx
        refine ⟨h1, fun c y hy => ?_⟩
        obtain ⟨g1, cv, g2, g3⟩ := h2 c y hy
        exact ⟨g1, cv, g2, g3.mono hFm (fun _ _ h => h)⟩
      · rw [Store.set_ne _ _ hlk] at hl
        exact .inl ⟨hl, fun hv q o hq ho => ⟨fun hz => h.wr.dis l k x _ q p _ o hlk hl hk hv rfl hq hp ho hz, (live_lt h.wr hl hv hq ho).2.2⟩⟩
    · by_cases hlk : l = k
      · subst hlk; rw [Store.set_self] at hl; cases hl
      · rw [Store.set_ne _ _ hlk] at hl; exact h.wr.non l hl
    · intro l1 l2 x y p' q' b o hne h1 h2 hx hy hp' hq' hpo hqo
      have g1 : ∃ x', st.ob l1 = some x' ∧ x'.live = true := by
        by_cases e1 : l1 = k
        · subst e1; exact ⟨_, hk, rfl⟩
        · rw [Store.set_ne _ _ e1] at h1; exact ⟨x, h1, hx⟩
      have g2 : ∃ x', st.ob l2 = some x' ∧ x'.live = true := by
        by_cases e1 : l2 = k
        · subst e1; exact ⟨_, hk, rfl⟩
        · rw [Store.set_ne _ _ e1] at h2; exact ⟨y, h2, hy⟩
      obtain ⟨x', g1, gx⟩ := g1
      obtain ⟨y', g2, gy⟩ := g2
      exact h.wr.dis l1 l2 x' y' p' q' b o hne g1 g2 gx gy hp' hq' hpo hqo
  · intro l x q' b o hl hx hq' ho
    by_cases e1 : l = k
    · rw [e1] at hq'
      exact h.own k _ q' b o hk rfl hq' ho
    · rw [Store.set_ne _ _ e1] at hl
      exact h.own l x q' b o hl hx hq' ho

/-- An object is given up; what it was is a new object's, in its own cells. -/
theorem Inv.moveTo {c : Ctx} {F : Cells} {pl : Places} {st : St} {a : Act} {w w' : World} (h : Inv c F pl st a w) {k k' : Key} {kf : Bool} {n : Nat} {es es' : List V} {p p' : Pl}
    (hk : st.ob k = some (.arr kf n es)) (hp : pl k = some p) (hk0 : k'.1 ≠ 0) (hk' : st.ob k' = none) (hs : Same p.has w w') (hex : ∀ o, p.has p.b o → (memOf w' p.b o).isSome ∧ ¬ frozOf w' p.b o)
    (hsub : ∀ b o, p'.has b o → p.has b o) (hpb : p'.b = p.b) (hpn : p'.n = n) (hle : es'.length ≤ p'.C)
    (hr : ∀ (j : Nat) x, es'[j]? = some x → x.cells.length = n ∧ ∀ (c : Nat) y, x.cells[c]? = some y → scal y = true ∧ ∃ cv, memOf w' p'.b (p'.base + j * n + c) = some cv ∧ RepV F (memOf w) (Obj.plc kf pl) y cv) :
    Inv c F (pl.set k' p') { st with ob := (st.ob.set k .dead).set k' (.arr kf n es') } a w' := by
  obtain ⟨q, hq, hro⟩ := h.wr.rep k _ hk
  cases hp.symm.trans hq
  obtain ⟨r1, r2, r3, r4, r5⟩ := hro
  have hkk : k ≠ k' := by rintro rfl; rw [hk] at hk'; cases hk'
  have hpk : pl k' = none := h.wr.non k' hk'
  have hpl : ∀ l q, pl l = some q → pl.set k' p' l = some q := fun l q hl => by
    rw [Places.set_ne]; exact hl
    rintro rfl; rw [hpk] at hl; cases hl
  have hZF : ∀ b o, F b o → ¬ p.has b o := fun b o hf hh => by have := hh.1; subst this; exact (r4 o hh).2.2 hf
  have hFm : ∀ b o, F b o → F b o ∧ memOf w' b o = memOf w b o := fun b o hf => ⟨hf, hs.cell b o (memOf_lt (h.wr.fex b o hf)) (hZF b o hf)⟩
  refine h.turn (F' := F) hs hZF (fun b o hz _ => h.own k _ p b o hk rfl hp hz) (fun _ _ h => h) (fun _ _ h => .inl h) hpl ?_ ?_ (fun l q h0 hq => by
    rw [Places.set_ne _ _ (by rintro rfl; exact hk0 h0)] at hq; exact hq)
  · refine h.wr.turn hs hZF (fun _ _ h => h) (fun _ _ h => .inl h) hpl (fun l x hl => ?_) (fun l hl => ?_) ?_
    · by_cases hlk' : l = k'
      · subst hlk'
        rw [Store.set_self] at hl; cases hl
        refine .inr ⟨p', Places.set_self _ _ _, hpn, r2, hle, fun o ho => ?_, fun j x hx => ?_⟩
        · have ho' := hsub _ _ ho
          rw [hpb] at ho' ⊢
          exact ⟨(hex o ho').1, (hex o ho').2, (r4 o ho').2.2⟩
        · obtain ⟨h1, h2⟩ := hr j x hx
          refine ⟨h1, fun c y hy => ?_⟩
          obtain ⟨g1, cv, g2, g3⟩ := h2 c y hy
          exact ⟨g1, cv, g2, g3.mono hFm (plc_mono hpl)⟩
      · rw [Store.set_ne _ _ hlk'] at hl
        by_cases hlk : l = k
        · subst hlk
          rw [Store.set_self] at hl; cases hl
          exact .inr ⟨p, hpl _ _ hp, trivial⟩
        · rw [Store.set_ne _ _ hlk] at hl
          exact .inl ⟨hl, fun hv q o hq ho => ⟨fun hz => h.wr.dis l k x _ q p _ o hlk hl hk hv rfl hq hp ho hz, (live_lt h.wr hl hv hq ho).2.2⟩⟩
    · by_cases hlk' : l = k'
      · subst hlk'; rw [Store.set_self] at hl; cases hl
      · rw [Store.set_ne _ _ hlk'] at hl
        rw [Places.set_ne _ _ hlk']
        by_cases hlk : l = k
        · subst hlk; rw [Store.set_self] at hl; cases hl
        · rw [Store.set_ne _ _ hlk] at hl; exact h.wr.non l hl
    · -- apart
      have old : ∀ l x q, ((st.ob.set k .dead).set k' (.arr kf n es')) l = some x → x.live = true → pl.set k' p' l = some q → l ≠ k' → l ≠ k ∧ st.ob l = some x ∧ pl l = some q := by
        intro l x q hl hx hq hlk'
        rw [Store.set_ne _ _ hlk'] at hl; rw [Places.set_ne _ _ hlk'] at hq
        by_cases hlk : l = k
        · subst hlk; rw [Store.set_self] at hl; cases hl; cases hx
        · rw [Store.set_ne _ _ hlk] at hl; exact ⟨hlk, hl, hq⟩
      intro l1 l2 x y p1 q1 b o hne h1 h2 hx hy hp1 hq1 hpo hqo
      by_cases e1 : l1 = k'
      · subst e1
        rw [Places.set_self] at hp1; cases hp1
        obtain ⟨n2, o2, q2⟩ := old l2 y q1 h2 hy hq1 (Ne.symm hne)
        exact h.wr.dis l2 k y _ q1 p b o n2 o2 hk hy rfl q2 hp hqo (hsub _ _ hpo)
      · obtain ⟨n1, o1, q1'⟩ := old l1 x p1 h1 hx hp1 e1
        by_cases e2 : l2 = k'
        · subst e2
          rw [Places.set_self] at hq1; cases hq1
          exact h.wr.dis l1 k x _ p1 p b o n1 o1 hk hx rfl q1' hp hpo (hsub _ _ hqo)
        · obtain ⟨n2, o2, q2⟩ := old l2 y q1 h2 hy hq1 e2
          exact h.wr.dis l1 l2 x y p1 q1 b o hne o1 o2 hx hy q1' q2 hpo hqo
  · intro l x q b o hl hx hq ho
    by_cases e1 : l = k'
    · subst e1
      rw [Places.set_self] at hq; cases hq
      exact h.own k _ p b o hk rfl hp (hsub _ _ ho)
    · rw [Store.set_ne _ _ e1] at hl; rw [Places.set_ne _ _ e1] at hq
      by_cases hlk : l = k
      · subst hlk; rw [Store.set_self] at hl; cases hl; cases hx
      · rw [Store.set_ne _ _ hlk] at hl
        exact h.own l x q b o hl hx hq ho

/-- An object is given up. -/
theorem Inv.drop {c : Ctx} {F : Cells} {pl : Places} {st : St} {a : Act} {w : World} (h : Inv c F pl st a w) {k : Key} {x : Obj} (hk : st.ob k = some x) :
    Inv c F pl { st with ob := st.ob.set k .dead } a w := by
  obtain ⟨p, hp, _⟩ := h.wr.rep k _ hk
  have old : ∀ l y, (st.ob.set k .dead) l = some y → y.live = true → st.ob l = some y := by
    intro l y hl hy
    by_cases e : l = k
    · subst e; rw [Store.set_self] at hl; cases hl; cases hy
    · rw [Store.set_ne _ _ e] at hl; exact hl
  refine h.turn (F' := F) (Same.refl noCells w) (fun _ _ _ h => h) (fun _ _ h => h.elim) (fun _ _ h => h) (fun _ _ h => .inl h) (fun _ _ h => h) ?_ (fun l y q b o hl hy => h.own l y q b o (old l y hl hy) hy) (fun _ _ _ h => h)
  refine h.wr.turn (Same.refl noCells w) (fun _ _ _ h => h) (fun _ _ h => h) (fun _ _ h => .inl h) (fun _ _ h => h) (fun l y hl => ?_) (fun l hl => ?_)
    (fun l1 l2 x y p q b o hne h1 h2 hx hy => h.wr.dis l1 l2 x y p q b o hne (old _ _ h1 hx) (old _ _ h2 hy) hx hy)
  · by_cases e : l = k
    · subst e; rw [Store.set_self] at hl; cases hl; exact .inr ⟨p, hp, trivial⟩
    · rw [Store.set_ne _ _ e] at hl
      exact .inl ⟨hl, fun hv q o hq ho => ⟨fun h => h, (live_lt h.wr hl hv hq ho).2.2⟩⟩
  · by_cases e : l = k
    · subst e; rw [Store.set_self] at hl; cases hl
    · rw [Store.set_ne _ _ e] at hl; exact h.wr.non l hl

/-- An object is never written again. -/
theorem Inv.freeze {c : Ctx} {F : Cells} {pl : Places} {st : St} {a : Act} {w : World} (h : Inv c F pl st a w) {k : Key} {n : Nat} {es : List V} {p : Pl} (hk : st.ob k = some (.arr true n es)) (hp : pl k = some p) :
    Inv c (fun b o => F b o ∨ p.has b o) pl { st with ob := st.ob.set k (.froz n es) } a w := by
  obtain ⟨q, hq, hro⟩ := h.wr.rep k _ hk
  cases hp.symm.trans hq
  obtain ⟨r1, r2, r3, r4, r5⟩ := hro
  have old : ∀ l y, (st.ob.set k (.froz n es)) l = some y → y.live = true → l ≠ k ∧ st.ob l = some y := by
    intro l y hl hy
    by_cases e : l = k
    · subst e; rw [Store.set_self] at hl; cases hl; cases hy
    · rw [Store.set_ne _ _ e] at hl; exact ⟨e, hl⟩
  have hFm : ∀ b o, F b o → (F b o ∨ p.has b o) ∧ memOf w b o = memOf w b o := fun b o h => ⟨.inl h, rfl⟩
  refine h.turn (Same.refl noCells w) (fun _ _ _ h => h) (fun _ _ h => h.elim) (fun _ _ h => .inl h) (fun b o hf => hf.imp id (fun ho => h.own k _ p b o hk rfl hp ho)) (fun _ _ h => h) ?_
    (fun l y q b o hl hy => h.own l y q b o (old l y hl hy).2 hy) (fun _ _ _ h => h)
  refine h.wr.turn (Same.refl noCells w) (fun _ _ _ h => h) (fun _ _ h => .inl h) (fun b o hf => hf.imp id (fun ho => by have := ho.1; subst this; exact (r4 o ho).1)) (fun _ _ h => h) (fun l y hl => ?_) (fun l hl => ?_)
    (fun l1 l2 x y p q b o hne h1 h2 hx hy => h.wr.dis l1 l2 x y p q b o hne (old _ _ h1 hx).2 (old _ _ h2 hy).2 hx hy)
  · by_cases e : l = k
    · subst e
      rw [Store.set_self] at hl; cases hl
      refine .inr ⟨p, hp, r1, r2, r3, fun j e he => ?_⟩
      have hj := (List.getElem?_eq_some_iff.1 he).1
      exact ⟨(r5 j e he).turn hFm (fun _ _ h => h) (fun _ _ => rfl), fun c hc => .inr (pl_has r1 r3 hj hc)⟩
    · rw [Store.set_ne _ _ e] at hl
      refine .inl ⟨hl, fun hv q o hq ho => ⟨fun h => h, ?_⟩⟩
      rintro (hf | hf)
      · exact (live_lt h.wr hl hv hq ho).2.2 hf
      · exact h.wr.dis l k y _ q p _ o e hl hk hv rfl hq hp ho hf
  · by_cases e : l = k
    · subst e; rw [Store.set_self] at hl; cases hl
    · rw [Store.set_ne _ _ e] at hl; exact h.wr.non l hl
end Go.Eng
