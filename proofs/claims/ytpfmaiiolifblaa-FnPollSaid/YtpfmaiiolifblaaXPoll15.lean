/- A machine of values for the program's code, part 17: what a call looks at and what it changes. -/
import Derived.Test.YtpfmaiiolifblaaXPoll14
namespace Go.Eng
open Go.RowKit

theorem freezeAll_local : ∀ {ks : List Key} {g h h' : Store}, sameAt ks g h → freezeAll h ks = some h' →
    ∃ g', freezeAll g ks = some g' ∧ (∀ k, g k = h k → g' k = h' k) ∧ (∀ k, k ∉ ks → g' k = g k ∧ h' k = h k)
  | [], g, h, h', _, hf => by
    simp only [freezeAll, Option.some.injEq] at hf; subst hf
    exact ⟨g, rfl, fun k hk => hk, fun k _ => ⟨rfl, rfl⟩⟩
  | k :: ks, g, h, h', hs, hf => by
    have hk := hs k (by simp)
    have hs' : sameAt ks g h := fun l hl => hs l (by simp [hl])
    simp only [freezeAll] at hf ⊢
    rw [hk]
    split at hf
    · rename_i n es he
      obtain ⟨g', h1, h2, h3⟩ := freezeAll_local (g := g.set k (.froz n es)) (fun l hl => by
        by_cases e : l = k
        · rw [e, Store.set_self, Store.set_self]
        · rw [Store.set_ne _ _ e, Store.set_ne _ _ e]; exact hs' l hl) hf
      refine ⟨g', h1, fun l hl => h2 l ?_, fun l hl => ?_⟩
      · by_cases e : l = k
        · rw [e, Store.set_self, Store.set_self]
        · rw [Store.set_ne _ _ e, Store.set_ne _ _ e]; exact hl
      · simp only [List.mem_cons, not_or] at hl
        obtain ⟨a1, a2⟩ := h3 l hl.2
        rw [a1, a2, Store.set_ne _ _ hl.1, Store.set_ne _ _ hl.1]
        exact ⟨rfl, rfl⟩
    · obtain ⟨g', h1, h2, h3⟩ := freezeAll_local hs' hf
      exact ⟨g', h1, h2, fun l hl => h3 l (fun h => hl (by simp [h]))⟩
    · cases hf

theorem addKeys_local {g h : Store} : ∀ {ks acc : List Key}, sameAt ks g h → addKeys g acc ks = addKeys h acc ks
  | [], _, _ => rfl
  | k :: ks, acc, hs => by
    unfold addKeys
    rw [hs k (by simp)]
    split
    · exact addKeys_local (fun l hl => hs l (by simp [hl]))
    · exact addKeys_local (fun l hl => hs l (by simp [hl]))

theorem addKeys_sub {g : Store} : ∀ {ks acc : List Key}, ∀ k ∈ acc, k ∈ addKeys g acc ks
  | [], _, k, hk => hk
  | l :: ks, acc, k, hk => by
    unfold addKeys
    split
    · exact addKeys_sub k hk
    · exact addKeys_sub k (by simp [hk])

theorem reachN_sub {g : Store} : ∀ {n : Nat} {acc : List Key}, ∀ k ∈ acc, k ∈ reachN g n acc
  | 0, _, k, hk => hk
  | n + 1, acc, k, hk => by
    simp only [reachN]
    exact reachN_sub (n := n) k (addKeys_sub k hk)

theorem reachN_local {g h : Store} : ∀ {n : Nat} {acc : List Key}, sameAt (reachN h n acc) g h → sameAt ((reachN h n acc).flatMap (obMents h)) g h → reachN g n acc = reachN h n acc
  | 0, _, _, _ => rfl
  | n + 1, acc, h1, h2 => by
    simp only [reachN] at h1 h2 ⊢
    have hacc : ∀ k ∈ acc, k ∈ reachN h n (addKeys h acc (acc.flatMap (obMents h))) := fun k hk => reachN_sub k (addKeys_sub k hk)
    have e1 : acc.flatMap (obMents g) = acc.flatMap (obMents h) := by
      rw [List.flatMap_def, List.flatMap_def]
      congr 1
      refine List.map_congr_left fun k hk => ?_
      unfold obMents
      rw [h1 k (hacc k hk)]
    have e2 : addKeys g acc (acc.flatMap (obMents g)) = addKeys h acc (acc.flatMap (obMents h)) := by
      rw [e1]
      refine addKeys_local fun k hk => h2 k ?_
      obtain ⟨l, hl, hkl⟩ := List.mem_flatMap.1 hk
      exact List.mem_flatMap.2 ⟨l, hacc l hl, hkl⟩
    rw [e2]
    exact reachN_local h1 h2

mutual
theorem argC_local {g h : Store} {L : List Key} : ∀ {v : V}, sameAt v.ments g h → argC g L v = argC h L v
  | .lp k n i o, hs => by simp only [argC]; rw [hs k (by simp [V.ments])]
  | .ls k n i len, hs => by simp only [argC]; rw [hs k (by simp [V.ments])]
  | .fn f cs, hs => by simp only [argC]; rw [argL_local (vs := cs) (by simpa only [V.ments] using hs)]
  | .agg cs, hs => by simp only [argC]; rw [argL_local (vs := cs) (by simpa only [V.ments] using hs)]
  | .tup cs, hs => by simp only [argC]; rw [argL_local (vs := cs) (by simpa only [V.ments] using hs)]
  | .un, _ => by simp only [argC]
  | .e0, _ => by simp only [argC]
  | .lit v, _ => by simp only [argC]
  | .ip n es i o, _ => by simp only [argC]
  | .is n es, _ => by simp only [argC]
theorem argL_local {g h : Store} {L : List Key} : ∀ {vs : List V}, sameAt (mentsL vs) g h → argL g L vs = argL h L vs
  | [], _ => by simp only [argL]
  | v :: vs, hs => by
    simp only [argL]
    rw [argC_local (v := v) (fun k hk => hs k (by simp [mentsL, hk])), argL_local (vs := vs) (fun k hk => hs k (by simp [mentsL, hk]))]
end

theorem objsC_local {g h : Store} {L : List Key} : ∀ {ks : List Key}, sameAt ks g h → sameAt (ks.flatMap (obMents h)) g h → objsC g L ks = objsC h L ks
  | [], _, _ => rfl
  | k :: ks, h1, h2 => by
    simp only [objsC]
    have e := h1 k (by simp)
    rw [e, objsC_local (ks := ks) (fun l hl => h1 l (by simp [hl])) (fun l hl => h2 l (by simp [List.flatMap_cons, hl]))]
    cases hk : h k with
    | none => rfl
    | some x =>
      have : objC g L x = objC h L x := by
        cases x with
        | dead => rfl
        | froz n es => rfl
        | arr kf n es =>
          cases kf with
          | true => rfl
          | false =>
            simp only [objC]
            rw [argL_local (vs := es) (fun l hl => h2 l (by
              simp only [List.flatMap_cons, List.mem_append]; left
              simpa [obMents, hk, Obj.ments] using hl))]
      simp only [this]

/-- What a call looks at, and what it may change (but for its own new objects). -/
def callT (imm : FuncId → List Nat) (ob : Store) (f : FuncId) (vs : List V) : List Key × List Key :=
  match freezeAll ob (frzKeys (imm f) vs) with
  | none => (frzKeys (imm f) vs, [])
  | some ob1 => (frzKeys (imm f) vs ++ mentsL vs ++ reach ob1 vs ++ (reach ob1 vs).flatMap (obMents ob1), frzKeys (imm f) vs ++ reach ob1 vs)

theorem callT_same {imm : FuncId → List Nat} {g h : Store} {f : FuncId} {vs : List V} (hs : sameAt (callT imm h f vs).1 g h) : callT imm g f vs = callT imm h f vs := by
  cases hfr : freezeAll h (frzKeys (imm f) vs) with
  | none =>
    have hs' : sameAt (frzKeys (imm f) vs) g h := by simpa only [callT, hfr] using hs
    have : freezeAll g (frzKeys (imm f) vs) = none := by
      cases hg : freezeAll g (frzKeys (imm f) vs) with
      | none => rfl
      | some g1 =>
        obtain ⟨h1, e, _⟩ := freezeAll_local (g := h) (h := g) (fun k hk => (hs' k hk).symm) hg
        rw [hfr] at e; cases e
    simp only [callT, hfr, this]
  | some h1 =>
    have hs' : sameAt (frzKeys (imm f) vs ++ mentsL vs ++ reach h1 vs ++ (reach h1 vs).flatMap (obMents h1)) g h := by simpa only [callT, hfr] using hs
    obtain ⟨g1, hg1, hg2, hg3⟩ := freezeAll_local (ks := frzKeys (imm f) vs) (g := g) (h := h) (fun k hk => hs' k (by simp [hk])) hfr
    have hin1 : ∀ k, k ∈ frzKeys (imm f) vs ++ mentsL vs ++ reach h1 vs ++ (reach h1 vs).flatMap (obMents h1) → g1 k = h1 k := fun k hk => hg2 k (hs' k hk)
    have hreach : reach g1 vs = reach h1 vs := by
      have e1 : addKeys g1 [] (mentsL vs) = addKeys h1 [] (mentsL vs) := addKeys_local fun k hk => hin1 k (by simp [hk])
      unfold reach
      rw [e1]
      exact reachN_local (fun k hk => hin1 k (by simp only [List.mem_append]; left; right; exact hk)) (fun k hk => hin1 k (by simp only [List.mem_append]; right; exact hk))
    have hment : (reach h1 vs).flatMap (obMents g1) = (reach h1 vs).flatMap (obMents h1) := by
      rw [List.flatMap_def, List.flatMap_def]
      congr 1
      refine List.map_congr_left fun k hk => ?_
      unfold obMents
      rw [hin1 k (by simp [hk])]
    simp only [callT, hfr, hg1, hreach, hment]

theorem sets_mem {g h : Store} {ups : List (Key × Obj)} {k : Key} (hk : ∃ u ∈ ups, u.1 = k) : g.sets ups k = h.sets ups k := by
  induction ups generalizing g h with
  | nil => obtain ⟨u, hu, _⟩ := hk; cases hu
  | cons u t ih =>
    simp only [Store.sets]
    by_cases ht : ∃ v ∈ t, v.1 = k
    · exact ih ht
    · obtain ⟨v, hv, e⟩ := hk
      rcases List.mem_cons.1 hv with rfl | hv
      · have hn : ∀ x ∈ t, x.1 ≠ k := fun x hx e => ht ⟨x, hx, e⟩
        rw [sets_ne hn, sets_ne hn, ← e, Store.set_self, Store.set_self]
      · exact absurd ⟨v, hv, e⟩ ht

theorem callG_frame {P : Program} {imm : FuncId → List Nat} {kb : Nat} {g : Store} {ups : List (Key × Obj)} {f : FuncId} {vs : List V} {K : V → Store → Prop}
    (hT : ∀ u ∈ ups, u.1 ∉ (callT imm (g.sets ups) f vs).1 ∧ u.1.1 ≠ kb) (h : callG P imm kb (g.sets ups) f vs K) :
    callT imm g f vs = callT imm (g.sets ups) f vs ∧
    callG P imm kb g f vs fun v ob' => (∀ k, k ∉ (callT imm g f vs).2 → k.1 ≠ kb → ob' k = g k) ∧ K v (ob'.sets ups) := by
  have hagree : ∀ k, (∀ u ∈ ups, u.1 ≠ k) → g k = g.sets ups k := fun k hk => (sets_ne hk).symm
  unfold callG at h
  split at h
  · exact h.elim
  rename_i h1 hfr
  have hT' : ∀ u ∈ ups, u.1 ∉ frzKeys (imm f) vs ++ mentsL vs ++ reach h1 vs ++ (reach h1 vs).flatMap (obMents h1) ∧ u.1.1 ≠ kb := by
    intro u hu
    have := hT u hu
    simp only [callT, hfr] at this
    exact this
  have hin : ∀ k, k ∈ frzKeys (imm f) vs ++ mentsL vs ++ reach h1 vs ++ (reach h1 vs).flatMap (obMents h1) → g k = g.sets ups k :=
    fun k hk => hagree k fun u hu e => (hT' u hu).1 (e ▸ hk)
  obtain ⟨g1, hg1, hg2, hg3⟩ := freezeAll_local (ks := frzKeys (imm f) vs) (g := g) (h := g.sets ups) (fun k hk => hin k (by simp [hk])) hfr
  have hin1 : ∀ k, k ∈ frzKeys (imm f) vs ++ mentsL vs ++ reach h1 vs ++ (reach h1 vs).flatMap (obMents h1) → g1 k = h1 k := fun k hk => hg2 k (hin k hk)
  have hreach : reach g1 vs = reach h1 vs := by
    have e1 : addKeys g1 [] (mentsL vs) = addKeys h1 [] (mentsL vs) := addKeys_local fun k hk => hin1 k (by simp [hk])
    unfold reach
    rw [e1]
    exact reachN_local (fun k hk => hin1 k (by simp only [List.mem_append]; left; right; exact hk)) (fun k hk => hin1 k (by simp only [List.mem_append]; right; exact hk))
  have hment : (reach h1 vs).flatMap (obMents g1) = (reach h1 vs).flatMap (obMents h1) := by
    rw [List.flatMap_def, List.flatMap_def]
    congr 1
    refine List.map_congr_left fun k hk => ?_
    unfold obMents
    rw [hin1 k (by simp [hk])]
  have hTT : callT imm g f vs = callT imm (g.sets ups) f vs := by
    simp only [callT, hfr, hg1, hreach, hment]
  refine ⟨hTT, ?_⟩
  have hW : (callT imm g f vs).2 = frzKeys (imm f) vs ++ reach h1 vs := by simp only [callT, hg1, hreach]
  unfold callG
  rw [hg1]
  simp only
  rw [hreach]
  have ea : argL g1 (reach h1 vs) vs = argL h1 (reach h1 vs) vs := argL_local fun k hk => hin1 k (by simp [hk])
  have eo : objsC g1 (reach h1 vs) (reach h1 vs) = objsC h1 (reach h1 vs) (reach h1 vs) := objsC_local (fun k hk => hin1 k (by simp [hk])) (fun k hk => hin1 k (by simp only [List.mem_append]; right; exact hk))
  rw [ea, eo]
  split at h
  · rename_i args objs hargs hobjs
    refine h.mono fun v objs' news ⟨hfresh, hK⟩ => ⟨fun j hj => ?_, fun k hk hkb => ?_, ?_⟩
    · have := hfresh j hj
      rw [hg2 (kb, j) (hagree _ fun u hu e => (hT' u hu).2 (by rw [e])), this]
    · rw [hW] at hk
      simp only [List.mem_append, not_or] at hk
      unfold backOb
      rw [if_neg hk.2, if_neg (fun h => hkb h.1)]
      exact (hg3 k hk.1).1
    · have : (backOb g1 (reach h1 vs) kb objs' news).sets ups = backOb h1 (reach h1 vs) kb objs' news := by
        funext k
        by_cases hk : ∃ u ∈ ups, u.1 = k
        · obtain ⟨u, hu, e⟩ := hk
          have hu' := hT' u hu
          rw [e] at hu'
          simp only [List.mem_append, not_or] at hu'
          rw [sets_mem (h := g) ⟨u, hu, e⟩]
          unfold backOb
          rw [if_neg hu'.1.1.2, if_neg (fun h => hu'.2 h.1)]
          exact (hg3 k hu'.1.1.1.1).2.symm
        · have hk' : ∀ u ∈ ups, u.1 ≠ k := fun u hu e => hk ⟨u, hu, e⟩
          rw [sets_ne hk']
          unfold backOb
          rw [hg2 k (hagree k hk')]
      rw [this]
      exact hK
  · exact h.elim
end Go.Eng
