/- A machine of values for the program's code, part 5: an operation that only computes does what the machine says. -/
import Derived.Test.YtpfmaiiolifblaaXPoll03
namespace Go.Eng
open Go.RowKit

section sound
variable {P : Program} {tt : TT} {F : Cells} {w : World} {pl : Places} {ρ : Operand → Value} {μ : Operand → V}

theorem optMap (hρ : ∀ x, RepV F (memOf w) pl (μ x) (ρ x)) (lo : Option Operand) : (∀ v, lo.map μ = some v → ∃ cv, lo.map ρ = some cv ∧ RepV F (memOf w) pl v cv) ∧ (lo.map μ = none → lo.map ρ = none) := by
  cases lo with
  | none => exact ⟨fun v h => by simp at h, fun _ => rfl⟩
  | some x => exact ⟨fun v h => ⟨ρ x, rfl, by simp at h; exact h ▸ hρ x⟩, fun h => by simp at h⟩

theorem TOk.struct' {t : TypeId} {fs : List (Nat × TypeId)} {s b : Nat} {z : List Z} {i : TypeInfo} {d : TypeDesc} (h : TOk P t ⟨.struct fs, s, b, z⟩ i d) :
    ∃ fields : Array Field, P.underlying t = some (.struct fields) ∧ (∀ (k off : Nat) (ft : TypeId), fs[k]? = some (off, ft) → ∃ f : Field, fields[k]? = some f ∧ f.offset = off ∧ f.type = ft) ∧
      ∀ (k : Nat) (f : Field), fields[k]? = some f → fs[k]? = some (f.offset, f.type) := by
  have := h.isd
  cases d <;> simp only [TD.is, Bool.false_eq_true] at this
  rename_i fields
  refine ⟨fields, h.und, fun k off ft hk => ?_, fun k f hk => ?_⟩
  · rw [eq_of_beq this] at hk
    simp only [List.getElem?_map, Option.map_eq_some_iff, Array.getElem?_toList] at hk
    obtain ⟨f, hf, he⟩ := hk
    cases he
    exact ⟨f, hf, rfl, rfl⟩
  · rw [eq_of_beq this]
    simp [hk]

theorem run_places (l : List Field) (h : ∀ f ∈ l, ∃ i, P.info? f.type = some i) :
    (l.mapM (fun f => do pure (f.offset, ← sizeOf f.type) : Field → Sem (Nat × Nat))).run P w = .ok (l.map fun f => (f.offset, P.cellsOf f.type)) w := by
  induction l with
  | nil => rfl
  | cons f t ih =>
    obtain ⟨i, hi⟩ := h f (by simp)
    have ih' := ih (fun f hf => h f (by simp [hf]))
    simp only [bind_pure_comp] at ih'
    simp [List.mapM_cons, run_sizeOf w hi, ih']

theorem pureF_sound (htt : TTok P tt) (hρ : ∀ x, RepV F (memOf w) pl (μ x) (ρ x)) (o : Oper) {v : V} (h : pureF tt o.op μ = some v) :
    ∃ cv, (execOp ρ o).run P w = .ok (.value cv) w ∧ RepV F (memOf w) pl v cv := by
  obtain ⟨dst, op, ty, pos, after, guard⟩ := o
  simp only at h
  cases op
  case move x => simp only [pureF, Option.some.injEq] at h; subst h; exact ⟨_, rfl, hρ x⟩
  case assign x => simp only [pureF, Option.some.injEq] at h; subst h; exact ⟨_, rfl, hρ x⟩
  case pick c a b =>
    simp only [pureF] at h
    have hc := hρ c
    split at h
    · rename_i cb hm
      rw [hm] at hc
      have := hc.lit_inv
      split at h
      · rename_i hcb; cases h
        exact ⟨ρ a, by simp [execOp, this, asBool, hcb], hρ a⟩
      · rename_i hcb; cases h
        have : cb = false := by simpa using hcb
        subst this
        exact ⟨ρ b, by simp [execOp, hc.lit_inv, asBool], hρ b⟩
    · cases h
  case build t parts =>
    simp only [pureF] at h
    split at h
    · rename_i ti hti
      split at h
      · rename_i fs hfs
        split at h <;> try contradiction
        rename_i hall
        obtain ⟨i, d, hk⟩ := htt.get hti
        obtain ⟨cs, hcs, rfl⟩ := Option.map_eq_some_iff.1 h
        obtain ⟨td, tsz, tby, tz⟩ := ti
        simp only at hfs hcs
        subst hfs
        obtain ⟨fields, hu, hf⟩ := hk.struct'
        have hz := hk.zeroValue (P := P) w
        have hmap := run_places (P := P) (w := w) fields.toList (fun f hfm => by
          obtain ⟨n, hn1, hn2⟩ := List.getElem_of_mem hfm
          have := hf.2 n f (by rw [← Array.getElem?_toList]; exact List.getElem?_eq_some_iff.2 ⟨hn1, hn2⟩)
          have h1 := List.all_eq_true.1 hall _ (List.mem_of_getElem? this)
          obtain ⟨fi, hfi⟩ := Option.isSome_iff_exists.1 h1
          obtain ⟨i2, d2, hk2⟩ := htt.get hfi
          exact ⟨_, hk2.info⟩)
        have hmap2 : (fields.mapM (fun f => do pure (f.offset, ← sizeOf f.type) : Field → Sem (Nat × Nat))).run P w = .ok (fields.toList.map fun f => (f.offset, P.cellsOf f.type)).toArray w := by
          rw [Array.mapM_eq_mapM_toList]
          rw [map_eq_pure_bind, Sem.run_bind, hmap]
          rfl
        obtain ⟨ca', hca, hsz, hr⟩ := run_fill (F := F) (m := memOf w) (pl := pl) (ρ := ρ) (μ := μ) (placeC := fun i => ((fields.toList.map fun f => (f.offset, P.cellsOf f.type)).toArray)[i]?) (place := placeV tt fs) (fun i x hx => by
            unfold placeV at hx
            split at hx <;> try contradiction
            rename_i off ft hff
            obtain ⟨fi, hfi, rfl⟩ := Option.map_eq_some_iff.1 hx
            obtain ⟨fl, hfl, rfl, rfl⟩ := hf.1 i off ft hff
            obtain ⟨i2, d2, hk2⟩ := htt.get hfi
            have : P.cellsOf fl.type = fi.size := by simp [Program.cellsOf, hk2.info, hk2.size]
            simp [hfl, this]) parts.toList (cells := tz.map fun z => .lit z.val) (ca := (tz.map Z.val).toArray) (by simp)
          (fun i x hi hx => repL (tz.map Z.val) i x hi (by simpa [List.map_map] using hx)) hρ hcs
        refine ⟨.agg ca', ?_, .agg _ hsz hr⟩
        have hzc : (TI.zeroVal ⟨.struct fs, tsz, tby, tz⟩).cells = (tz.map Z.val).toArray := rfl
        have hpl : (parts.map fun x => (x.1, ρ x.2)).toList = parts.toList.map fun p => (p.1, ρ p.2) := by simp
        simp only [execOp, Instr.build, Sem.run_bind, hz, Result.andThen, run_underlying hu, hzc, hmap2, hpl, hca]
        rfl
      · cases h
    · cases h
  case nilCheck x =>
    simp only [pureF] at h
    have hx := hρ x
    split at h
    · rename_i hm; rw [hm] at hx; cases h
      obtain ⟨p, _, _, e⟩ := hx.lp_inv
      exact ⟨ρ x, by simp [execOp, e], hx⟩
    · rename_i hm; rw [hm] at hx; cases h
      obtain ⟨b, base, cf, _, _, _, e⟩ := hx.ip_inv
      exact ⟨ρ x, by simp [execOp, e], hx⟩
    · rename_i hm; rw [hm] at hx; cases h
      obtain ⟨cs, e, _, _⟩ := hx.fn_inv
      exact ⟨ρ x, by simp [execOp, e], hx⟩
    · cases h
  case load t a =>
    simp only [pureF] at h
    have hx := hρ a
    split at h
    · rename_i ti n es i off hti hm
      rw [hm] at hx
      split at h
      · rename_i e he
        obtain ⟨ii, d, hk⟩ := htt.get hti
        obtain ⟨b, base, cf, h1, h2, h3, e'⟩ := hx.ip_inv
        obtain ⟨cv, k1, k2⟩ := run_loadVar_cells (P := P) (w := w) (F := F) hk (b := b) (o := base + i * n) (pl' := noPl) (h1 i e he) (fun c x hx => ⟨(h2 i e c x he hx).1, cf i c, (h2 i e c x he hx).2.2, h3 i e c x he hx⟩) h
        exact ⟨cv, by simp [execOp, Instr.loadAt, e', Instr.sureAddr, k1], k2.ofNo⟩
      · cases h
    · cases h
  case unOp op t x =>
    simp only [pureF] at h
    obtain ⟨cv, h1, h2⟩ := unV_sound (P := P) (hρ x) h
    exact ⟨cv, by simp [execOp, h1], h2⟩
  case binOp op t x y yt =>
    simp only [pureF] at h
    obtain ⟨cv, h1, h2, h3⟩ := binV_sound (P := P) htt (hρ x) (hρ y) x y h
    exact ⟨cv, by simp [execOp, h1, h2], h3⟩
  case convert src dst x =>
    simp only [pureF] at h
    have hx := hρ x
    split at h
    · rename_i ht1 ht2 hm
      rw [hm] at hx
      obtain ⟨i1, d1, hk1⟩ := htt.get ht1
      obtain ⟨i2, d2, hk2⟩ := htt.get ht2
      have := hx.lit_inv
      cases h
      exact ⟨_, by simp [execOp, convert, run_underlying hk1.int, run_underlying hk2.int, this, Conv.intToInt], .lit⟩
    · rename_i ht1 ht2 hm
      rw [hm] at hx
      obtain ⟨i1, d1, hk1⟩ := htt.get ht1
      obtain ⟨i2, d2, hk2⟩ := htt.get ht2
      have := hx.lit_inv
      cases h
      exact ⟨_, by simp [execOp, convert, run_underlying hk1.str, run_underlying hk2.str, this], .lit⟩
    · cases h
  case makeFunc fn first cap =>
    cases fn <;> simp only [pureF, reduceCtorEq] at h
    split at h
    · rename_i f h0
      cases h
      have : first = #[] := by simpa using h0
      subst this
      refine ⟨.func (.func f) #[] (cap.map ρ), by simp [execOp, Instr.makeFunc], .fn _ (by simp) (fun i x hi hx => ?_)⟩
      have := repMap (F := F) (w := w) (pl := pl) (l := cap.toList) hρ i x (by simpa using hi) hx
      simpa using this
    · cases h
  case slice t x lo hi mx =>
    simp only [pureF] at h
    obtain ⟨cv, h1, h2⟩ := sliceV_sound (P := P) htt (hρ x) (optMap hρ lo).1 (optMap hρ hi).1 (optMap hρ mx).1 (optMap hρ lo).2 (optMap hρ hi).2 (optMap hρ mx).2 h
    exact ⟨cv, by simp [execOp, h1], h2⟩
  case fieldAddr s x f =>
    simp only [pureF] at h
    have hx := hρ x
    split at h <;> try contradiction
    rename_i fs sz by_ z hts
    obtain ⟨i, d, hk⟩ := htt.get hts
    obtain ⟨fields, hu, hf⟩ := hk.struct
    split at h <;> try contradiction
    rename_i off ft hff
    obtain ⟨fl, hfl, rfl, rfl⟩ := hf f off ft hff
    split at h <;> try contradiction
    rename_i fi hfi
    obtain ⟨i2, d2, hk2⟩ := htt.get hfi
    split at h
    · cases h
    · rename_i hz
      have hsz := hk2.sizeOf (P := P) w
      split at h
      · rename_i hm; rw [hm] at hx; cases h
        obtain ⟨p, hp, hn, e⟩ := hx.lp_inv
        rename_i k n ii oo
        refine ⟨.pointer (some ⟨p.b, p.base + ii * n + (oo + fl.offset), none⟩), by simp [execOp, Instr.fieldAt, run_underlying hu, hfl, e, Instr.sureAddr, fieldPlace, hsz, hz, add_none, Nat.add_assoc], .lp hp hn⟩
      · rename_i hm; rw [hm] at hx; cases h
        obtain ⟨b, base, cf, h1, h2, h3, e⟩ := hx.ip_inv
        rename_i n es ii oo
        refine ⟨.pointer (some ⟨b, base + ii * n + (oo + fl.offset), none⟩), by simp [execOp, Instr.fieldAt, run_underlying hu, hfl, e, Instr.sureAddr, fieldPlace, hsz, hz, add_none, Nat.add_assoc], .ip cf h1 h2 h3⟩
      · cases h
  case field s x f =>
    simp only [pureF] at h
    have hx := hρ x
    split at h <;> try contradiction
    rename_i fs sz by_ z hts
    obtain ⟨i, d, hk⟩ := htt.get hts
    obtain ⟨fields, hu, hf⟩ := hk.struct
    split at h <;> try contradiction
    rename_i off ft hff
    obtain ⟨fl, hfl, rfl, rfl⟩ := hf f off ft hff
    split at h <;> try contradiction
    rename_i fi hfi
    obtain ⟨i2, d2, hk2⟩ := htt.get hfi
    split at h <;> try contradiction
    rename_i hm; rw [hm] at hx
    obtain ⟨cs, e, h1, h2⟩ := hx.agg_inv
    obtain ⟨cv, k1, k2⟩ := rep_part (P := P) (w := w) hk2 h1 h2 h
    exact ⟨cv, by simp [execOp, Instr.field, run_underlying hu, hfl, e, asAgg, k1], k2⟩
  case indexAddr t x ix =>
    simp only [pureF] at h
    have hx := hρ x
    have hi := hρ ix
    split at h <;> try contradiction
    rename_i e sz by_ z hts
    obtain ⟨i, d, hk⟩ := htt.get hts
    have hu := hk.slice
    split at h <;> try contradiction
    rename_i ei hei
    obtain ⟨i2, d2, hk2⟩ := htt.get hei
    have hsz := hk2.sizeOf (P := P) w
    split at h <;> try contradiction
    · rename_i n es k ii hm hmi
      rw [hm] at hx; rw [hmi] at hi
      have e1 := hi.lit_inv
      split at h <;> try contradiction
      rename_i hb
      obtain ⟨hb1, hb2, hb3⟩ := hb
      cases h
      obtain ⟨h0, _⟩ | ⟨a, cap, cf, hcap, hsp, h1, h2, h3, e2⟩ := hx.is_inv
      · rw [h0] at hb3; simp at hb3; omega
      have hne : es ≠ [] := by rintro rfl; simp at hb3; omega
      obtain ⟨ab, ao, asp⟩ := a
      have := hsp hne; simp at this; subst this
      refine ⟨.pointer (some ⟨ab, ao + ii.toNat * n + 0, none⟩), ?_, .ip cf h1 h2 h3⟩
      simp [execOp, Instr.indexAt, e1, e2, asIntOf, run_underlying hu, hsz, hb1, hb2, hb3, add_none]
    · rename_i k n i0 len kk ii hm hmi
      rw [hm] at hx; rw [hmi] at hi
      have e1 := hi.lit_inv
      obtain ⟨p, a, cap, hp, hn, hlc, hic, ha, e2⟩ := hx.ls_inv
      split at h <;> try contradiction
      rename_i hb
      obtain ⟨hb1, hb2, hb3⟩ := hb
      cases h
      have ha' := ha (by omega)
      subst ha'
      refine ⟨.pointer (some ⟨p.b, p.base + (i0 + ii.toNat) * n + 0, none⟩), ?_, .lp hp hn⟩
      simp [execOp, Instr.indexAt, e1, e2, asIntOf, run_underlying hu, hsz, hb1, hb2, hb3, add_none, Nat.add_mul, Nat.add_assoc]
  case index t x ix =>
    simp only [pureF] at h
    have hx := hρ x
    have hi := hρ ix
    split at h <;> try contradiction
    rename_i sz by_ z s k ii hts hm hmi
    obtain ⟨i, d, hk⟩ := htt.get hts
    rw [hm] at hx; rw [hmi] at hi
    have e1 := hi.lit_inv
    have e2 := hx.lit_inv
    split at h <;> try contradiction
    rename_i b hb
    cases h
    refine ⟨_, ?_, .lit⟩
    simp only [execOp, Instr.index, e1, e2, asIntOf, Sem.run_bind, Sem.run_pure, Result.andThen, run_underlying hk.str, hb]
  case extract x i =>
    simp only [pureF] at h
    have hx := hρ x
    split at h <;> try contradiction
    rename_i vs hm
    rw [hm] at hx
    obtain ⟨cs, e, h1, h2⟩ := hx.tup_inv
    obtain ⟨hl, _⟩ := List.getElem?_eq_some_iff.1 h
    have hl' : i < cs.size := by omega
    exact ⟨cs[i], by simp [execOp, Instr.extract, e, hl'], h2 i v hl' h⟩
  case call c =>
    obtain ⟨callee, args, argTypes⟩ := c
    cases callee <;> simp only [pureF, reduceCtorEq] at h
    rename_i b
    obtain ⟨cv, h1, h2⟩ := builtinV_sound (P := P) (F := F) (w := w) (pl := pl) (ty := ty) (cs := args.map fun | .const _ => true | _ => false) (cvs := args.map ρ) htt (by simp)
      (fun i x hi hx => by
        have := repMap (F := F) (w := w) (pl := pl) (l := args.toList) hρ i x (by simpa using hi) hx
        simpa using this) h
    exact ⟨cv, by simp only [execOp, resolve, Sem.run_bind, Sem.run_pure, Result.andThen, invoke]; exact h1, h2⟩
  all_goals (simp only [pureF, reduceCtorEq] at h)
end sound
end Go.Eng
