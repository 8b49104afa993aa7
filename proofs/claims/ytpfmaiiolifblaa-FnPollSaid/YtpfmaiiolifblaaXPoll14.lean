/- A machine of values for the program's code, part 16: what an operation looks at and what it changes. -/
import Derived.Test.YtpfmaiiolifblaaXPoll13
namespace Go.Eng
open Go.RowKit

structure Ann where
  imm : FuncId → List Nat
  keep : Nat → List Nat × List Key
  sw : Nat → Store → List (Key × Key) := fun _ _ => []

def kbO (o : Oper) : Nat :=
  match o.dst with
  | some d => d + 2
  | none => 1
def nkO (o : Oper) : Key := (kbO o, 0)

def sameAt (ks : List Key) (g h : Store) : Prop := ∀ k ∈ ks, g k = h k

/-- What an operation that is no call looks at, and what it may change. -/
def opT (op : Op) (μ : Operand → V) (nk : Key) : List Key × List Key :=
  match op with
  | .alloc _ => ([nk], [nk])
  | .box _ _ => ([nk], [nk])
  | .makeSlice _ _ _ => ([nk], [nk])
  | .buildSlice _ _ parts => (nk :: mentsL (parts.toList.map fun p => μ p.2), nk :: mentsL (parts.toList.map fun p => μ p.2))
  | .load _ a => ((μ a).ments, [])
  | .convert _ _ x => ((μ x).ments, [])
  | .store _ a x => ((μ a).ments ++ (μ x).ments, (μ a).ments ++ (μ x).ments)
  | .call { callee := .builtin .append, args, .. } => match args.toList with
    | [s, x] => (nk :: (μ s).ments ++ (μ x).ments, nk :: (μ s).ments)
    | _ => ([], [])
  | .call { callee := .builtin .copy, args, .. } => match args.toList with
    | [s, x] => ((μ s).ments ++ (μ x).ments, (μ s).ments)
    | _ => ([], [])
  | .call { callee := .builtin .clear, args, .. } => match args.toList with
    | [s] => ((μ s).ments, (μ s).ments)
    | _ => ([], [])
  | _ => ([], [])

theorem frzC_local {g h : Store} {x : V} (hk : sameAt x.ments g h) : frzC g x = frzC h x := by
  cases x <;> try rfl
  rename_i k n i len
  have := hk k (by simp [V.ments])
  simp only [frzC, this]

theorem frzL_local {g h : Store} : ∀ {xs : List V}, sameAt (mentsL xs) g h → frzL g xs = frzL h xs
  | [], _ => rfl
  | x :: xs, hk => by
    simp only [frzL]
    rw [frzC_local (fun k hm => hk k (by simp [mentsL, hm])), frzL_local (xs := xs) (fun k hm => hk k (by simp [mentsL, hm]))]

theorem frz_local {g h : Store} {x : V} (hk : sameAt x.ments g h) : frz g x = frz h x := by
  unfold frz
  split
  · rename_i cs; rw [frzL_local (xs := cs) (by simpa [V.ments] using hk)]
  · exact frzC_local hk

theorem srcV_local {g h : Store} {n : Nat} {st : Bool} {x : V} (hk : sameAt x.ments g h) : srcV g n st x = srcV h n st x := by
  unfold srcV
  split <;> try rfl
  rename_i k n' i len
  rw [hk k (by simp [V.ments])]

theorem putParts_local {n : Nat} {g h : Store} : ∀ {ps : List (Nat × V)} {es : List V}, sameAt (mentsL (ps.map (·.2))) g h → putParts n g es ps = putParts n h es ps
  | [], _, _ => rfl
  | (i, x) :: ps, es, hk => by
    simp only [putParts]
    rw [frz_local (g := g) (h := h) (x := x) (fun k hm => hk k (by simp [mentsL, hm]))]
    split <;> try rfl
    split <;> try rfl
    rename_i x' u _
    rw [putParts_local (ps := ps) (es := es.set i x') (fun k hm => hk k (by simp [mentsL, hm]))]

theorem bytesF_local {g h : Store} {x : V} (hk : sameAt x.ments g h) : bytesF g x = bytesF h x := by
  unfold bytesF
  rw [srcV_local hk]

theorem opF_local {tt : TT} {nk : Key} {op : Op} {μ : Operand → V} {g h : Store} (hk : sameAt (opT op μ nk).1 g h) : opF tt nk op μ g = opF tt nk op μ h := by
  cases op
  case alloc elem =>
    have := hk nk (by simp [opT])
    simp only [opF, makeV, this]
  case box elem x =>
    have := hk nk (by simp [opT])
    simp only [opF, makeV, this]
  case makeSlice t l c =>
    have := hk nk (by simp [opT])
    simp only [opF, makeSliceF, this]
  case buildSlice t len parts =>
    have h1 := hk nk (by simp [opT])
    have h2 : ∀ ei : TI, putParts ei.size g (List.replicate len ei.zeroV) (parts.toList.map fun p => (p.1, μ p.2)) = putParts ei.size h (List.replicate len ei.zeroV) (parts.toList.map fun p => (p.1, μ p.2)) := fun ei =>
      putParts_local (fun k hm => hk k (by simp only [opT, List.mem_cons]; right; simpa [List.map_map, Function.comp_def] using hm))
    simp only [opF, buildSliceF, h1, h2]
  case load t a =>
    simp only [opF]
    split
    · rename_i hl
      have : loadF tt g t (μ a) = loadF tt h t (μ a) := by
        unfold loadF
        split <;> try rfl
        rename_i ti k n i off hti hm
        rw [hk k (by simp only [opT]; rw [hm]; simp [V.ments])]
      rw [this]
    · rfl
  case convert src dst x =>
    simp only [opF]
    rw [bytesF_local (g := g) (h := h) (x := μ x) (fun k hm => hk k (by simpa [opT] using hm))]
  case store t a x =>
    simp only [opF]
    have : storeF tt g t (μ a) (μ x) = storeF tt h t (μ a) (μ x) := by
      unfold storeF
      split <;> try rfl
      rename_i ti k n i off hti hm
      rw [hk k (by simp only [opT]; rw [hm]; simp [V.ments])]
      have hz : ∀ kf, keepOrFrz kf g (μ x) = keepOrFrz kf h (μ x) := by
        intro kf
        unfold keepOrFrz
        split
        · exact frz_local (fun k hm => hk k (by simp [opT, hm]))
        · rfl
      simp only [hz]
    rw [this]
  case call cl =>
    obtain ⟨callee, args, ts⟩ := cl
    cases callee <;> try rfl
    rename_i b
    cases b <;> try rfl
    case append =>
      simp only [opF]
      split <;> try rfl
      rename_i t tx s x hts has
      have hT : (opT (.call { callee := .builtin .append, args := args, argTypes := ts }) μ nk).1 = nk :: (μ s).ments ++ (μ x).ments := by simp only [opT, has]
      rw [hT] at hk
      split
      · have h1 := hk nk (by simp)
        unfold appMakeF
        split <;> try rfl
        split <;> try rfl
        split <;> try rfl
        unfold appendV
        split <;> try rfl
        split <;> try simp only [h1]
        rename_i k n i len hm
        rw [hk k (by rw [hm]; simp [V.ments])]
      unfold appendF
      split <;> try rfl
      split <;> try rfl
      rename_i ei stb _ _
      rw [srcV_local (g := g) (h := h) (x := μ x) (fun k hm => hk k (by simp [hm]))]
      split <;> try rfl
      rename_i xs _
      have h1 := hk nk (by simp)
      unfold appendV
      split <;> try rfl
      split <;> try simp only [h1]
      rename_i k n i len hm
      rw [hk k (by rw [hm]; simp [V.ments])]
    case copy =>
      simp only [opF]
      split <;> try rfl
      rename_i t tx s x hts has
      have hT : (opT (.call { callee := .builtin .copy, args := args, argTypes := ts }) μ nk).1 = (μ s).ments ++ (μ x).ments := by simp only [opT, has]
      rw [hT] at hk
      unfold copyG
      split <;> try rfl
      split <;> try rfl
      split <;> try rfl
      rw [srcV_local (g := g) (h := h) (x := μ x) (fun k hm => hk k (by simp [hm]))]
      split <;> try rfl
      unfold copyF
      split <;> try rfl
      rename_i k n i len hm
      rw [hk k (by rw [hm]; simp [V.ments])]
    case clear =>
      simp only [opF]
      split <;> try rfl
      rename_i t s hts has
      have hT : (opT (.call { callee := .builtin .clear, args := args, argTypes := ts }) μ nk).1 = (μ s).ments := by simp only [opT, has]
      rw [hT] at hk
      unfold clearG
      split <;> try rfl
      split <;> try rfl
      unfold clearF
      split <;> try rfl
      rename_i k n i len hm
      rw [hk k (by rw [hm]; simp [V.ments])]
  all_goals rfl

theorem putParts_keys {n : Nat} {g : Store} : ∀ {ps : List (Nat × V)} {es es' : List V} {us : List (Key × Obj)}, putParts n g es ps = some (es', us) → ∀ u ∈ us, u.1 ∈ mentsL (ps.map (·.2))
  | [], es, es', us, h => by simp only [putParts, Option.some.injEq, Prod.mk.injEq] at h; intro u hu; rw [← h.2] at hu; cases hu
  | (i, x) :: ps, es, es', us, h => by
    simp only [putParts] at h
    split at h <;> try contradiction
    split at h <;> try contradiction
    rename_i x' u hx'
    split at h <;> try contradiction
    rename_i es2 us2 hr
    simp only [Option.some.injEq, Prod.mk.injEq] at h
    obtain ⟨_, rfl⟩ := h
    intro v hv
    simp only [List.map_cons, mentsL, List.mem_append]
    rcases List.mem_append.1 hv with hv | hv
    · exact .inl (frz_keys hx' v hv)
    · exact .inr (putParts_keys hr v hv)

theorem opF_keys {tt : TT} {nk : Key} {op : Op} {μ : Operand → V} {g : Store} {v : V} {ups : List (Key × Obj)} (h : opF tt nk op μ g = some (v, ups)) : ∀ u ∈ ups, u.1 ∈ (opT op μ nk).2 := by
  have none_ : ∀ (y : Option V), opF tt nk op μ g = y.map (fun v => (v, [])) → ∀ u ∈ ups, u.1 ∈ (opT op μ nk).2 := by
    intro y hy u hu
    rw [h] at hy
    obtain ⟨z, _, e⟩ := Option.map_eq_some_iff.1 hy.symm
    simp only [Prod.mk.injEq] at e
    rw [← e.2] at hu; cases hu
  have none1 : opF tt nk op μ g = (pureF tt op μ).map (fun v => (v, [])) → ∀ u ∈ ups, u.1 ∈ (opT op μ nk).2 := none_ _
  cases op
  case alloc elem =>
    simp only [opF, makeV] at h
    split at h <;> try contradiction
    split at h <;> try contradiction
    split at h <;> try contradiction
    simp only [Option.some.injEq, Prod.mk.injEq] at h
    intro u hu; rw [← h.2] at hu; simp at hu; subst hu; simp [opT]
  case box elem x =>
    simp only [opF, makeV] at h
    split at h <;> try contradiction
    split at h <;> try contradiction
    simp only [Option.some.injEq, Prod.mk.injEq] at h
    intro u hu; rw [← h.2] at hu; simp at hu; subst hu; simp [opT]
  case makeSlice t l c =>
    simp only [opF, makeSliceF] at h
    split at h <;> try contradiction
    split at h <;> try contradiction
    split at h <;> try contradiction
    simp only [Option.some.injEq, Prod.mk.injEq] at h
    intro u hu; rw [← h.2] at hu; simp at hu; subst hu; simp [opT]
  case buildSlice t len parts =>
    simp only [opF, buildSliceF] at h
    split at h <;> try contradiction
    split at h <;> try contradiction
    split at h <;> try contradiction
    split at h <;> try contradiction
    rename_i es us hput
    simp only [Option.some.injEq, Prod.mk.injEq] at h
    intro u hu; rw [← h.2] at hu
    rcases List.mem_append.1 hu with hu | hu
    · have := putParts_keys hput u hu
      simp only [opT, List.mem_cons]; right
      simpa [List.map_map, Function.comp_def] using this
    · simp at hu; subst hu; simp [opT]
  case load t a =>
    simp only [opF] at h
    split at h
    · rename_i hl; exact none_ (loadF tt g t (μ a)) (by simp only [opF]; rw [if_pos hl])
    · rename_i hl; exact none_ (pureF tt (.load t a) μ) (by simp only [opF]; rw [if_neg hl])
  case convert src dst x =>
    simp only [opF] at h
    split at h
    · unfold bytesF at h
      split at h <;> try contradiction
      obtain ⟨ns, _, e⟩ := Option.map_eq_some_iff.1 h
      cases e
      intro u hu; cases hu
    · rename_i hl; exact none_ (pureF tt (.convert src dst x) μ) (by simp only [opF]; rw [if_neg hl])
  case store t a x =>
    simp only [opF] at h
    obtain ⟨us, hus, e⟩ := Option.map_eq_some_iff.1 h
    simp only [Prod.mk.injEq] at e
    obtain ⟨_, rfl⟩ := e
    unfold storeF at hus
    split at hus <;> try contradiction
    rename_i ti k n i off hti hm
    split at hus <;> try contradiction
    split at hus <;> try contradiction
    split at hus <;> try contradiction
    split at hus <;> try contradiction
    rename_i y' u0 hy'
    split at hus <;> try contradiction
    simp only [Option.some.injEq] at hus
    intro u hu; rw [← hus] at hu
    simp only [opT, List.mem_append]
    rcases List.mem_append.1 hu with hu | hu
    · right
      unfold keepOrFrz at hy'
      split at hy'
      · exact frz_keys hy' u hu
      · simp only [Option.some.injEq, Prod.mk.injEq] at hy'
        rw [← hy'.2] at hu; cases hu
    · left; simp at hu; subst hu; rw [hm]; simp [V.ments]
  case call cl =>
    obtain ⟨callee, args, ts⟩ := cl
    cases callee
    case value f => exact none1 rfl
    case invoke r m => exact none1 rfl
    rename_i b
    cases b
    case append =>
      simp only [opF] at h
      split at h <;> try contradiction
      rename_i t tx s x hts has
      have hT : (opT (.call { callee := .builtin .append, args := args, argTypes := ts }) μ nk).2 = nk :: (μ s).ments := by simp only [opT, has]
      rw [hT]
      split at h
      · unfold appMakeF at h
        split at h <;> try contradiction
        split at h <;> try contradiction
        split at h <;> try contradiction
        unfold appendV at h
        split at h <;> try contradiction
        split at h
        · split at h
          · simp only [Option.some.injEq, Prod.mk.injEq] at h; intro u hu; rw [← h.2] at hu; cases hu
          · split at h <;> try contradiction
            simp only [Option.some.injEq, Prod.mk.injEq] at h; intro u hu; rw [← h.2] at hu; simp at hu; subst hu; simp
        · split at h
          · simp only [Option.some.injEq, Prod.mk.injEq] at h; intro u hu; rw [← h.2] at hu; cases hu
          · split at h <;> try contradiction
            simp only [Option.some.injEq, Prod.mk.injEq] at h; intro u hu; rw [← h.2] at hu; simp at hu; subst hu; simp
        · rename_i k n i len hm
          split at h <;> try contradiction
          split at h <;> try contradiction
          simp only [Option.some.injEq, Prod.mk.injEq] at h
          intro u hu; rw [← h.2] at hu
          rw [hm]
          simp at hu
          rcases hu with hu | hu <;> subst hu <;> simp [V.ments]
        · cases h
      unfold appendF at h
      split at h <;> try contradiction
      split at h <;> try contradiction
      split at h <;> try contradiction
      unfold appendV at h
      split at h <;> try contradiction
      split at h
      · split at h
        · simp only [Option.some.injEq, Prod.mk.injEq] at h; intro u hu; rw [← h.2] at hu; cases hu
        · split at h <;> try contradiction
          simp only [Option.some.injEq, Prod.mk.injEq] at h; intro u hu; rw [← h.2] at hu; simp at hu; subst hu; simp
      · split at h
        · simp only [Option.some.injEq, Prod.mk.injEq] at h; intro u hu; rw [← h.2] at hu; cases hu
        · split at h <;> try contradiction
          simp only [Option.some.injEq, Prod.mk.injEq] at h; intro u hu; rw [← h.2] at hu; simp at hu; subst hu; simp
      · rename_i k n i len hm
        split at h <;> try contradiction
        split at h <;> try contradiction
        simp only [Option.some.injEq, Prod.mk.injEq] at h
        intro u hu; rw [← h.2] at hu
        rw [hm]
        simp at hu
        rcases hu with hu | hu <;> subst hu <;> simp [V.ments]
      · cases h
    case copy =>
      simp only [opF] at h
      split at h <;> try contradiction
      rename_i t tx s x hts has
      have hT : (opT (.call { callee := .builtin .copy, args := args, argTypes := ts }) μ nk).2 = (μ s).ments := by simp only [opT, has]
      rw [hT]
      unfold copyG at h
      split at h <;> try contradiction
      split at h <;> try contradiction
      split at h <;> try contradiction
      split at h <;> try contradiction
      unfold copyF at h
      split at h <;> try contradiction
      rename_i k n i len hm
      split at h <;> try contradiction
      split at h <;> try contradiction
      simp only [Option.some.injEq, Prod.mk.injEq] at h
      intro u hu; rw [← h.2] at hu; simp at hu; subst hu; rw [hm]; simp [V.ments]
    case clear =>
      simp only [opF] at h
      split at h <;> try contradiction
      rename_i t s hts has
      have hT : (opT (.call { callee := .builtin .clear, args := args, argTypes := ts }) μ nk).2 = (μ s).ments := by simp only [opT, has]
      rw [hT]
      unfold clearG at h
      split at h <;> try contradiction
      split at h <;> try contradiction
      obtain ⟨us, hus, e⟩ := Option.map_eq_some_iff.1 h
      simp only [Prod.mk.injEq] at e
      obtain ⟨_, rfl⟩ := e
      unfold clearF at hus
      split at hus <;> try contradiction
      · rename_i k n i len hm
        split at hus <;> try contradiction
        split at hus <;> try contradiction
        simp only [Option.some.injEq] at hus
        intro u hu; rw [← hus] at hu; simp at hu; subst hu; rw [hm]; simp [V.ments]
      · simp only [Option.some.injEq] at hus; intro u hu; rw [← hus] at hu; cases hu
      · simp only [Option.some.injEq] at hus; intro u hu; rw [← hus] at hu; cases hu
    all_goals exact none1 rfl
  all_goals exact none1 rfl
end Go.Eng
