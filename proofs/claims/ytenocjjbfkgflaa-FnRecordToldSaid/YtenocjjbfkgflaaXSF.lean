import Derived.Test.YtenocjjbfkgflaaXSE
namespace Go.Eng.T
open Go.Proofs Go.Eng Go.Eng.S
set_option maxRecDepth 100000
set_option maxHeartbeats 0

theorem CloneB.ac (D : List Int) (h0 : 0 < D.length) (hD : D.length ≤ 10000000) {K : V → List Obj → List Obj → Prop} (hK : K (.ls (1, 0) 1 0 D.length) [] [rowB D]) : AC Try.prog 64 [.is 1 (D.map encB)] [] K := by
  have hml : (D.map encB).length = D.length := List.length_map ..
  obtain ⟨x, E, hE⟩ : ∃ x E, D = x :: E := by
    cases D with
    | nil => simp at h0
    | cons x E => exact ⟨x, E, rfl⟩
  refine ac_body (ann []) [((997, 0), true), ((7, 0), false), ((9, 0), false)] hm htt Try.func64 rfl (by kernel_rfl) rfl rfl ?_
  rw [hE]
  conv => whnf
  rw [← hE] 
  repeat' ((conv => whnf); first
    | (refine appN ⟨by decide, rfl, rfl, by omega, ⟨by dsimp only; omega, by omega⟩, rfl, by simp [mentsOne]⟩ ?_)
    | (refine bF_dec (fun _ => ?_) (fun _ => ?_) <;> try (exfalso; omega))
    | (refine bF_eq (fun _ => ?_) (fun _ => ?_) <;> try (exfalso; omega))
    | (refine bF_ne (fun _ => ?_) (fun _ => ?_) <;> try (exfalso; omega))
    | (refine a64 (by omega) ?_)
    | (refine ix_at rfl (by omega) ?_)
    | (refine ⟨⟨rfl, by omega, by omega⟩, ?_⟩)
    | (refine map_at (by omega) ?_)
    | (refine alen ?_)
    | (refine amin ?_)
    | (refine amax ?_)
    | (refine ⟨⟨rfl, rfl, by simp [V.ments]⟩, ?_⟩)
    | (refine map_at0 (by omega) ?_)
    | (refine set_at rfl ?_)
    | (refine map_atI (by omega) ?_)
    | (refine map_atI0 (by omega) ?_)
    | (refine set_atI rfl ?_)
    | (refine ⟨⟨by decide, rfl, by omega, by omega, by omega, by dsimp only; omega⟩, ?_⟩)
    | (refine arem (by omega) ?_)
    | (refine aquo (by omega) (by omega) ?_)
    | (refine au8 ?_)
    | (refine au64 (by omega) ?_)
    | (refine anat ?_)
    | (refine szOk rfl ?_)
    | (refine dvOk rfl (by omega) ?_)
    | (refine nzOk (by decide) ?_)
    | (refine lgOk (by kernel_rfl) ?_)
    | (refine kpOk (by kernel_rfl) ?_)
    | fail)
  all_goals conv => whnf
  exact hK
/-- The first bytes are written over. -/
def overB (old d : List Int) (n : Int) : List Int := d.take (max 0 (min n d.length)).toNat ++ old.drop (max 0 (min n d.length)).toNat
theorem over_len {old d : List Int} {n : Int} (h : d.length = old.length) : (overB old d n).length = old.length := by
  simp only [overB, List.length_append, List.length_take, List.length_drop]; omega
theorem l16Over.ac (old d : List Int) (n : Int) (h1 : old.length = 7000) (h2 : d.length = 7000) {K : V → List Obj → List Obj → Prop} (hK : K (.ls (1, 0) 1 0 (overB old d n).length) [] [rowB (overB old d n)]) : AC Try.prog 63 [.is 1 (old.map encB), .is 1 (d.map encB), iv n] [] K := by
  obtain ⟨k, hk⟩ : ∃ k : Nat, max 0 (min n (d.length : Int)) = k := ⟨(max 0 (min n (d.length : Int))).toNat, by omega⟩
  have e : overB old d n = (d.drop 0).take k ++ (old.drop k).take (7000 - k) := by
    unfold overB; rw [hk, Int.toNat_natCast, List.drop_zero, List.take_of_length_le (l := old.drop k) (by rw [List.length_drop]; omega)]
  rw [e] at hK
  have hml : (old.map encB).length = old.length := List.length_map ..
  have hmd : (d.map encB).length = d.length := List.length_map ..
  have l1 : (((d.drop 0).take k).map encB).length = k := by rw [List.length_map, List.length_take, List.length_drop]; omega
  have l1' : ((d.drop 0).take k).length = k := by rw [List.length_take, List.length_drop]; omega
  have l2 : (((old.drop k).take (7000 - k)).map encB).length = 7000 - k := by rw [List.length_map, List.length_take, List.length_drop]; omega
  refine ac_body (ann []) [((997, 0), true), ((15, 0), false), ((19, 0), false), ((23, 0), false)] hm htt Try.func63 rfl (by kernel_rfl) rfl rfl ?_
  repeat' ((conv => whnf); first
    | (refine cutN 0 k ⟨by omega, by omega⟩ rfl (by omega) ?_)
    | (refine cutN k (7000 - k) ⟨by omega, by omega⟩ (by omega) (by omega) ?_)
    | (refine appN ⟨by decide, rfl, rfl, by simp, ⟨by dsimp only; omega, by omega⟩, rfl, by simp [mentsOne]⟩ ?_)
    | (refine appR ⟨by decide, rfl, rfl, by omega, ⟨by dsimp only; omega, by omega⟩, rfl, by simp [mentsOne]⟩ ?_)
    | (refine bF_dec (fun _ => ?_) (fun _ => ?_) <;> try (exfalso; omega))
    | (refine bF_eq (fun _ => ?_) (fun _ => ?_) <;> try (exfalso; omega))
    | (refine bF_ne (fun _ => ?_) (fun _ => ?_) <;> try (exfalso; omega))
    | (refine a64 (by omega) ?_)
    | (refine ix_at rfl (by omega) ?_)
    | (refine ⟨⟨rfl, by omega, by omega⟩, ?_⟩)
    | (refine map_at (by omega) ?_)
    | (refine alen ?_)
    | (refine amin ?_)
    | (refine amax ?_)
    | (refine ⟨⟨rfl, rfl, by simp [V.ments]⟩, ?_⟩)
    | (refine map_at0 (by omega) ?_)
    | (refine set_at rfl ?_)
    | (refine map_atI (by omega) ?_)
    | (refine map_atI0 (by omega) ?_)
    | (refine set_atI rfl ?_)
    | (refine ⟨⟨by decide, rfl, by omega, by omega, by omega, by dsimp only; omega⟩, ?_⟩)
    | (refine arem (by omega) ?_)
    | (refine aquo (by omega) (by omega) ?_)
    | (refine au8 ?_)
    | (refine au64 (by omega) ?_)
    | (refine anat ?_)
    | (refine szOk rfl ?_)
    | (refine dvOk rfl (by omega) ?_)
    | (refine nzOk (by decide) ?_)
    | (refine lgOk (by kernel_rfl) ?_)
    | (refine kpOk (by kernel_rfl) ?_)
    | fail)
  all_goals conv => whnf
  exact hK
theorem l16Over.r (old d : List Int) (n : Int) (h1 : old.length = 7000) (h2 : d.length = 7000) {K : V → List Obj → List Obj → Prop} (hK : K (.ls (1, 0) 1 0 (overB old d n).length) [rowB d] [rowB (overB old d n)]) : AC Try.prog 63 [.is 1 (old.map encB), .ls (0, 0) 1 0 d.length, iv n] [rowB d] K :=
  AC.borrow (objs := []) (.cons (.same List.not_mem_nil) (.cons (.all (by simp)) (.cons (.same List.not_mem_nil) .nil))) (fun _ h => nomatch h) (l16Over.ac old d n h1 h2 ⟨⟨rfl, rfl, noIs_rowB _⟩, hK⟩)
theorem copy_over {old d : List Int} {n : Int} (h1 : old.length = 7000) (h2 : d.length = 7000) :
    old.take 0 ++ ((d.drop 0).take ((min (max n 0) 7000).toNat - 0)).take (Nat.min ((d.drop 0).take ((min (max n 0) 7000).toNat - 0)).length old.length) ++ old.drop (0 + Nat.min ((d.drop 0).take ((min (max n 0) 7000).toNat - 0)).length old.length) = overB old d n := by
  have e : (max 0 (min n (d.length : Int))).toNat = (min (max n 0) 7000).toNat := by omega
  have e2 : Nat.min ((d.drop 0).take ((min (max n 0) 7000).toNat - 0)).length old.length = (min (max n 0) 7000).toNat := by
    rw [List.drop_zero, List.length_take, Nat.sub_zero]
    show min _ _ = _
    omega
  unfold overB
  rw [e, e2, List.take_zero, List.nil_append, List.drop_zero, Nat.sub_zero, Nat.zero_add, List.take_take, Nat.min_self]
/-- What is written into the slots. -/
noncomputable def putOf (D E : List Int) (ops : List OpR) (n : Int) (f : Bool) (g : Int) : List Int × List Int :=
  if f = true then (D, overB E (imB (g + 1) ops) n) else (overB D (imB (g + 1) ops) n, E)
noncomputable def nextOf (D E : List Int) : Bool × Int :=
  match bestOf D E with
  | some (f, g, _) => (f, g)
  | none => (false, 0)
noncomputable def putR (D E : List Int) (ops : List OpR) (n : Int) : Option (List Int × List Int) := by
  classical exact if (D.length = 7000 ∧ E.length = 7000) ∧ ImOk ((nextOf D E).2 + 1) ops then some (putOf D E ops n (nextOf D E).1 (nextOf D E).2) else none
theorem better_le {D E : List Int} {f : Bool} {g : Int} {ops : List OpR} (h : bestOf D E = some (f, g, ops)) : 1 ≤ g ∧ g ≤ 1000000 := by
  unfold bestOf at h
  rcases h1 : imgOf D with _ | ⟨g1, a⟩ <;> rcases h2 : imgOf E with _ | ⟨g2, b⟩ <;> rw [h1, h2] at h
  · cases h
  · cases h; exact (imgOf_some h2).1.2.1
  · cases h; exact (imgOf_some h1).1.2.1
  · simp only [better] at h
    split at h
    · cases h; exact (imgOf_some h1).1.2.1
    · cases h; exact (imgOf_some h2).1.2.1
theorem l16Best.y {D E : List Int} (hd : Bytes D) (he : Bytes E) (hD : D.length ≤ 10000000) (hE : E.length ≤ 10000000) {f : Bool} {g : Int} {ops : List OpR} (h : bestOf D E = some (f, g, ops)) {K : V → List Obj → List Obj → Prop} (hK : K (.tup [iv (if f = true then 0 else 1), iv g, .ls (1, 0) 11 0 ops.length]) [] [rowO ops]) : AC Try.prog 60 [slV D E] [] K :=
  l16Best.ac D E hd he hD hE (fun f' g' ops' h' => by rw [h] at h'; cases h'; exact hK) (fun h' => by rw [h] at h'; cases h')
theorem best.y {D E : List Int} (hd : Bytes D) (he : Bytes E) (hD : D.length ≤ 10000000) (hE : E.length ≤ 10000000) {f : Bool} {g : Int} {ops : List OpR} (h : bestOf D E = some (f, g, ops)) {K : V → List Obj → List Obj → Prop} (hK : K (.tup [iv g, .ls (1, 0) 11 0 ops.length, bv true, bv f]) [] [rowO ops]) : AC Try.prog 62 [slV D E] [] K :=
  best.ac D E hd he hD hE (fun f' g' ops' h' => by rw [h] at h'; cases h'; exact hK) (fun h' => by rw [h] at h'; cases h')
theorem SlotsPutS.ac (D E : List Int) (hd : Bytes D) (he : Bytes E) (ops : List OpR) (n : Int) (hi : ∀ o ∈ ops, o.ints) (ho : ops.length ≤ 10000000) {K : V → List Obj → List Obj → Prop}
    (hK1 : ∀ X Y, putR D E ops n = some (X, Y) → K (.tup [slM X Y (1, 0) (1, 1), bv true]) [] [rowB X, rowB Y]) (hK0 : putR D E ops n = none → K (.tup [.agg [nilS, nilS], bv false]) [] []) : AC Try.prog 33 [slV D E, .is 11 (ops.map encOp), iv n] [] K := by
  have hml : (D.map encB).length = D.length := List.length_map ..
  have hme : (E.map encB).length = E.length := List.length_map ..
  refine ac_body (ann []) [((997, 0), true), ((5, 0), true), ((8, 0), true), ((21, 0), false), ((29, 0), false), ((37, 0), false), ((40, 0), false), ((45, 0), false), ((51, 0), false), ((52, 0), false), ((55, 0), false)] hm htt Try.func33 rfl (by kernel_rfl) rfl rfl ?_
  by_cases h7 : D.length = 7000 ∧ E.length = 7000
  rotate_left
  · repeat' ((conv => whnf); first
      | (refine SlotsOkS2 D E (fun h => absurd h h7) (fun _ => ?_))
      | (refine bF_dec (fun _ => ?_) (fun _ => ?_) <;> try (exfalso; omega))
      | (refine bF_eq (fun _ => ?_) (fun _ => ?_) <;> try (exfalso; omega))
      | (refine bF_ne (fun _ => ?_) (fun _ => ?_) <;> try (exfalso; omega))
      | (refine a64 (by omega) ?_)
      | (refine ix_at rfl (by omega) ?_)
      | (refine ⟨⟨rfl, by omega, by omega⟩, ?_⟩)
      | (refine map_at (by omega) ?_)
      | (refine alen ?_)
      | (refine amin ?_)
      | (refine amax ?_)
      | (refine ⟨⟨rfl, rfl, by simp [V.ments]⟩, ?_⟩)
      | (refine map_at0 (by omega) ?_)
      | (refine set_at rfl ?_)
      | (refine map_atI (by omega) ?_)
      | (refine map_atI0 (by omega) ?_)
      | (refine set_atI rfl ?_)
      | (refine ⟨⟨by decide, rfl, by omega, by omega, by omega, by dsimp only; omega⟩, ?_⟩)
      | (refine arem (by omega) ?_)
      | (refine aquo (by omega) (by omega) ?_)
      | (refine au8 ?_)
      | (refine au64 (by omega) ?_)
      | (refine anat ?_)
      | (refine szOk rfl ?_)
      | (refine dvOk rfl (by omega) ?_)
      | (refine nzOk (by decide) ?_)
      | (refine lgOk (by kernel_rfl) ?_)
      | (refine kpOk (by kernel_rfl) ?_)
      | fail)
    all_goals conv => whnf
    exact hK0 (if_neg fun h => h7 h.1)
  -- three cases
  rcases hB : bestOf D E with _ | ⟨f, g, a⟩
  · have hn : nextOf D E = (false, 0) := by unfold nextOf; rw [hB]
    by_cases hk : ImOk (0 + 1) ops
    · have hL := imB_len hk
      have hO := over_len (old := D) (d := (imB (0 + 1) ops)) (n := n) (by omega)
      have hO' := over_len (old := E) (d := (imB (0 + 1) ops)) (n := n) (by omega)
      repeat' ((conv => whnf); first
        | (refine SlotsOkS2 D E (fun _ => ?_) (fun h => absurd h7 h))
        | (refine l16Best.ac D E hd he (by omega) (by omega) (fun f g ops h1 => by rw [hB] at h1; cases h1) (fun _ => ?_))
        | (refine ImageOfS.ac (0 + 1) ops hi ho (fun _ => ?_) (fun h => absurd hk h))
        | (refine l16Over.r D (imB (0 + 1) ops) n (by omega) hL ?_)
        | (refine appN ⟨by decide, rfl, rfl, by simp, ⟨by dsimp only; omega, by omega⟩, rfl, by simp [mentsOne]⟩ ?_)
        | (refine bF_dec (fun _ => ?_) (fun _ => ?_) <;> try (exfalso; omega))
        | (refine bF_eq (fun _ => ?_) (fun _ => ?_) <;> try (exfalso; omega))
        | (refine bF_ne (fun _ => ?_) (fun _ => ?_) <;> try (exfalso; omega))
        | (refine a64 (by omega) ?_)
        | (refine ix_at rfl (by omega) ?_)
        | (refine ⟨⟨rfl, by omega, by omega⟩, ?_⟩)
        | (refine map_at (by omega) ?_)
        | (refine alen ?_)
        | (refine amin ?_)
        | (refine amax ?_)
        | (refine ⟨⟨rfl, rfl, by simp [V.ments]⟩, ?_⟩)
        | (refine map_at0 (by omega) ?_)
        | (refine set_at rfl ?_)
        | (refine map_atI (by omega) ?_)
        | (refine map_atI0 (by omega) ?_)
        | (refine set_atI rfl ?_)
        | (refine ⟨⟨by decide, rfl, by omega, by omega, by omega, by dsimp only; omega⟩, ?_⟩)
        | (refine arem (by omega) ?_)
        | (refine aquo (by omega) (by omega) ?_)
        | (refine au8 ?_)
        | (refine au64 (by omega) ?_)
        | (refine anat ?_)
        | (refine szOk rfl ?_)
        | (refine dvOk rfl (by omega) ?_)
        | (refine nzOk (by decide) ?_)
        | (refine lgOk (by kernel_rfl) ?_)
        | (refine kpOk (by kernel_rfl) ?_)
        | fail)
      all_goals conv => whnf
      exact hK1 (overB D (imB (0 + 1) ops) n) E ((if_pos ⟨h7, by rw [hn]; exact hk⟩).trans (by rw [hn]; rfl))
    · repeat' ((conv => whnf); first
        | (refine SlotsOkS2 D E (fun _ => ?_) (fun h => absurd h7 h))
        | (refine l16Best.ac D E hd he (by omega) (by omega) (fun f g ops h1 => by rw [hB] at h1; cases h1) (fun _ => ?_))
        | (refine ImageOfS.ac (0 + 1) ops hi ho (fun h => absurd h hk) (fun _ => ?_))
        | (refine bF_dec (fun _ => ?_) (fun _ => ?_) <;> try (exfalso; omega))
        | (refine bF_eq (fun _ => ?_) (fun _ => ?_) <;> try (exfalso; omega))
        | (refine bF_ne (fun _ => ?_) (fun _ => ?_) <;> try (exfalso; omega))
        | (refine a64 (by omega) ?_)
        | (refine ix_at rfl (by omega) ?_)
        | (refine ⟨⟨rfl, by omega, by omega⟩, ?_⟩)
        | (refine map_at (by omega) ?_)
        | (refine alen ?_)
        | (refine amin ?_)
        | (refine amax ?_)
        | (refine ⟨⟨rfl, rfl, by simp [V.ments]⟩, ?_⟩)
        | (refine map_at0 (by omega) ?_)
        | (refine set_at rfl ?_)
        | (refine map_atI (by omega) ?_)
        | (refine map_atI0 (by omega) ?_)
        | (refine set_atI rfl ?_)
        | (refine ⟨⟨by decide, rfl, by omega, by omega, by omega, by dsimp only; omega⟩, ?_⟩)
        | (refine arem (by omega) ?_)
        | (refine aquo (by omega) (by omega) ?_)
        | (refine au8 ?_)
        | (refine au64 (by omega) ?_)
        | (refine anat ?_)
        | (refine szOk rfl ?_)
        | (refine dvOk rfl (by omega) ?_)
        | (refine nzOk (by decide) ?_)
        | (refine lgOk (by kernel_rfl) ?_)
        | (refine kpOk (by kernel_rfl) ?_)
        | fail)
      all_goals conv => whnf
      exact hK0 (if_neg fun h => hk (by have := h.2; rwa [hn] at this))
  have hg := better_le hB
  cases f
  · have hn : nextOf D E = (false, g) := by unfold nextOf; rw [hB]
    by_cases hk : ImOk (g + 1) ops
    · have hL := imB_len hk
      have hO := over_len (old := D) (d := (imB (g + 1) ops)) (n := n) (by omega)
      have hO' := over_len (old := E) (d := (imB (g + 1) ops)) (n := n) (by omega)
      repeat' ((conv => whnf); first
        | (refine SlotsOkS2 D E (fun _ => ?_) (fun h => absurd h7 h))
        | (refine l16Best.y hd he (by omega) (by omega) hB ?_)
        | (refine ImageOfS.ac (g + 1) ops hi ho (fun _ => ?_) (fun h => absurd hk h))
        | (refine l16Over.r D (imB (g + 1) ops) n (by omega) hL ?_)
        | (refine appN ⟨by decide, rfl, rfl, by simp, ⟨by dsimp only; omega, by omega⟩, rfl, by simp [mentsOne]⟩ ?_)
        | (refine bF_dec (fun _ => ?_) (fun _ => ?_) <;> try (exfalso; omega))
        | (refine bF_eq (fun _ => ?_) (fun _ => ?_) <;> try (exfalso; omega))
        | (refine bF_ne (fun _ => ?_) (fun _ => ?_) <;> try (exfalso; omega))
        | (refine a64 (by omega) ?_)
        | (refine ix_at rfl (by omega) ?_)
        | (refine ⟨⟨rfl, by omega, by omega⟩, ?_⟩)
        | (refine map_at (by omega) ?_)
        | (refine alen ?_)
        | (refine amin ?_)
        | (refine amax ?_)
        | (refine ⟨⟨rfl, rfl, by simp [V.ments]⟩, ?_⟩)
        | (refine map_at0 (by omega) ?_)
        | (refine set_at rfl ?_)
        | (refine map_atI (by omega) ?_)
        | (refine map_atI0 (by omega) ?_)
        | (refine set_atI rfl ?_)
        | (refine ⟨⟨by decide, rfl, by omega, by omega, by omega, by dsimp only; omega⟩, ?_⟩)
        | (refine arem (by omega) ?_)
        | (refine aquo (by omega) (by omega) ?_)
        | (refine au8 ?_)
        | (refine au64 (by omega) ?_)
        | (refine anat ?_)
        | (refine szOk rfl ?_)
        | (refine dvOk rfl (by omega) ?_)
        | (refine nzOk (by decide) ?_)
        | (refine lgOk (by kernel_rfl) ?_)
        | (refine kpOk (by kernel_rfl) ?_)
        | fail)
      all_goals conv => whnf
      exact hK1 (overB D (imB (g + 1) ops) n) E ((if_pos ⟨h7, by rw [hn]; exact hk⟩).trans (by rw [hn]; rfl))
    · repeat' ((conv => whnf); first
        | (refine SlotsOkS2 D E (fun _ => ?_) (fun h => absurd h7 h))
        | (refine l16Best.y hd he (by omega) (by omega) hB ?_)
        | (refine ImageOfS.ac (g + 1) ops hi ho (fun h => absurd h hk) (fun _ => ?_))
        | (refine bF_dec (fun _ => ?_) (fun _ => ?_) <;> try (exfalso; omega))
        | (refine bF_eq (fun _ => ?_) (fun _ => ?_) <;> try (exfalso; omega))
        | (refine bF_ne (fun _ => ?_) (fun _ => ?_) <;> try (exfalso; omega))
        | (refine a64 (by omega) ?_)
        | (refine ix_at rfl (by omega) ?_)
        | (refine ⟨⟨rfl, by omega, by omega⟩, ?_⟩)
        | (refine map_at (by omega) ?_)
        | (refine alen ?_)
        | (refine amin ?_)
        | (refine amax ?_)
        | (refine ⟨⟨rfl, rfl, by simp [V.ments]⟩, ?_⟩)
        | (refine map_at0 (by omega) ?_)
        | (refine set_at rfl ?_)
        | (refine map_atI (by omega) ?_)
        | (refine map_atI0 (by omega) ?_)
        | (refine set_atI rfl ?_)
        | (refine ⟨⟨by decide, rfl, by omega, by omega, by omega, by dsimp only; omega⟩, ?_⟩)
        | (refine arem (by omega) ?_)
        | (refine aquo (by omega) (by omega) ?_)
        | (refine au8 ?_)
        | (refine au64 (by omega) ?_)
        | (refine anat ?_)
        | (refine szOk rfl ?_)
        | (refine dvOk rfl (by omega) ?_)
        | (refine nzOk (by decide) ?_)
        | (refine lgOk (by kernel_rfl) ?_)
        | (refine kpOk (by kernel_rfl) ?_)
        | fail)
      all_goals conv => whnf
      exact hK0 (if_neg fun h => hk (by have := h.2; rwa [hn] at this))
  · have hn : nextOf D E = (true, g) := by unfold nextOf; rw [hB]
    by_cases hk : ImOk (g + 1) ops
    · have hL := imB_len hk
      have hO := over_len (old := D) (d := (imB (g + 1) ops)) (n := n) (by omega)
      have hO' := over_len (old := E) (d := (imB (g + 1) ops)) (n := n) (by omega)
      repeat' ((conv => whnf); first
        | (refine SlotsOkS2 D E (fun _ => ?_) (fun h => absurd h7 h))
        | (refine l16Best.y hd he (by omega) (by omega) hB ?_)
        | (refine ImageOfS.ac (g + 1) ops hi ho (fun _ => ?_) (fun h => absurd hk h))
        | (refine l16Over.r E (imB (g + 1) ops) n (by omega) hL ?_)
        | (refine appN ⟨by decide, rfl, rfl, by simp, ⟨by dsimp only; omega, by omega⟩, rfl, by simp [mentsOne]⟩ ?_)
        | (refine bF_dec (fun _ => ?_) (fun _ => ?_) <;> try (exfalso; omega))
        | (refine bF_eq (fun _ => ?_) (fun _ => ?_) <;> try (exfalso; omega))
        | (refine bF_ne (fun _ => ?_) (fun _ => ?_) <;> try (exfalso; omega))
        | (refine a64 (by omega) ?_)
        | (refine ix_at rfl (by omega) ?_)
        | (refine ⟨⟨rfl, by omega, by omega⟩, ?_⟩)
        | (refine map_at (by omega) ?_)
        | (refine alen ?_)
        | (refine amin ?_)
        | (refine amax ?_)
        | (refine ⟨⟨rfl, rfl, by simp [V.ments]⟩, ?_⟩)
        | (refine map_at0 (by omega) ?_)
        | (refine set_at rfl ?_)
        | (refine map_atI (by omega) ?_)
        | (refine map_atI0 (by omega) ?_)
        | (refine set_atI rfl ?_)
        | (refine ⟨⟨by decide, rfl, by omega, by omega, by omega, by dsimp only; omega⟩, ?_⟩)
        | (refine arem (by omega) ?_)
        | (refine aquo (by omega) (by omega) ?_)
        | (refine au8 ?_)
        | (refine au64 (by omega) ?_)
        | (refine anat ?_)
        | (refine szOk rfl ?_)
        | (refine dvOk rfl (by omega) ?_)
        | (refine nzOk (by decide) ?_)
        | (refine lgOk (by kernel_rfl) ?_)
        | (refine kpOk (by kernel_rfl) ?_)
        | fail)
      all_goals conv => whnf
      exact hK1 D (overB E (imB (g + 1) ops) n) ((if_pos ⟨h7, by rw [hn]; exact hk⟩).trans (by rw [hn]; rfl))
    · repeat' ((conv => whnf); first
        | (refine SlotsOkS2 D E (fun _ => ?_) (fun h => absurd h7 h))
        | (refine l16Best.y hd he (by omega) (by omega) hB ?_)
        | (refine ImageOfS.ac (g + 1) ops hi ho (fun h => absurd h hk) (fun _ => ?_))
        | (refine bF_dec (fun _ => ?_) (fun _ => ?_) <;> try (exfalso; omega))
        | (refine bF_eq (fun _ => ?_) (fun _ => ?_) <;> try (exfalso; omega))
        | (refine bF_ne (fun _ => ?_) (fun _ => ?_) <;> try (exfalso; omega))
        | (refine a64 (by omega) ?_)
        | (refine ix_at rfl (by omega) ?_)
        | (refine ⟨⟨rfl, by omega, by omega⟩, ?_⟩)
        | (refine map_at (by omega) ?_)
        | (refine alen ?_)
        | (refine amin ?_)
        | (refine amax ?_)
        | (refine ⟨⟨rfl, rfl, by simp [V.ments]⟩, ?_⟩)
        | (refine map_at0 (by omega) ?_)
        | (refine set_at rfl ?_)
        | (refine map_atI (by omega) ?_)
        | (refine map_atI0 (by omega) ?_)
        | (refine set_atI rfl ?_)
        | (refine ⟨⟨by decide, rfl, by omega, by omega, by omega, by dsimp only; omega⟩, ?_⟩)
        | (refine arem (by omega) ?_)
        | (refine aquo (by omega) (by omega) ?_)
        | (refine au8 ?_)
        | (refine au64 (by omega) ?_)
        | (refine anat ?_)
        | (refine szOk rfl ?_)
        | (refine dvOk rfl (by omega) ?_)
        | (refine nzOk (by decide) ?_)
        | (refine lgOk (by kernel_rfl) ?_)
        | (refine kpOk (by kernel_rfl) ?_)
        | fail)
      all_goals conv => whnf
      exact hK0 (if_neg fun h => hk (by have := h.2; rwa [hn] at this))
theorem SlotsPutI.ac (D E : List Int) (hd : Bytes D) (he : Bytes E) (ops : List OpR) (n : Int) (hi : ∀ o ∈ ops, o.ints) (ho : ops.length ≤ 10000000) {K : V → List Obj → List Obj → Prop}
    (hK1 : ∀ X Y, putR D E ops n = some (X, Y) → K (.tup [slM X Y (1, 0) (1, 1), bv true]) [] [rowB X, rowB Y]) (hK0 : putR D E ops n = none → K (.tup [.agg [nilS, nilS], bv false]) [] []) : AC Try.prog 34 [slV D E, .is 11 (ops.map encOp), iv n] [] K := by
  have hml : (D.map encB).length = D.length := List.length_map ..
  have hme : (E.map encB).length = E.length := List.length_map ..
  refine ac_body (ann []) [((997, 0), true), ((5, 0), true), ((8, 0), true), ((24, 0), false), ((33, 0), false), ((41, 0), false), ((44, 0), false), ((16, 0), true)] hm htt Try.func34 rfl (by kernel_rfl) rfl rfl ?_
  by_cases h7 : D.length = 7000 ∧ E.length = 7000
  rotate_left
  · repeat' ((conv => whnf); first
      | (refine areSlots2 D E (fun h => absurd h h7) (fun _ => ?_))
      | (refine bF_dec (fun _ => ?_) (fun _ => ?_) <;> try (exfalso; omega))
      | (refine bF_eq (fun _ => ?_) (fun _ => ?_) <;> try (exfalso; omega))
      | (refine bF_ne (fun _ => ?_) (fun _ => ?_) <;> try (exfalso; omega))
      | (refine a64 (by omega) ?_)
      | (refine ix_at rfl (by omega) ?_)
      | (refine ⟨⟨rfl, by omega, by omega⟩, ?_⟩)
      | (refine map_at (by omega) ?_)
      | (refine alen ?_)
      | (refine amin ?_)
      | (refine amax ?_)
      | (refine ⟨⟨rfl, rfl, by simp [V.ments]⟩, ?_⟩)
      | (refine map_at0 (by omega) ?_)
      | (refine set_at rfl ?_)
      | (refine map_atI (by omega) ?_)
      | (refine map_atI0 (by omega) ?_)
      | (refine set_atI rfl ?_)
      | (refine ⟨⟨by decide, rfl, by omega, by omega, by omega, by dsimp only; omega⟩, ?_⟩)
      | (refine arem (by omega) ?_)
      | (refine aquo (by omega) (by omega) ?_)
      | (refine au8 ?_)
      | (refine au64 (by omega) ?_)
      | (refine anat ?_)
      | (refine szOk rfl ?_)
      | (refine dvOk rfl (by omega) ?_)
      | (refine nzOk (by decide) ?_)
      | (refine lgOk (by kernel_rfl) ?_)
      | (refine kpOk (by kernel_rfl) ?_)
      | fail)
    all_goals conv => whnf
    exact hK0 (if_neg fun h => h7 h.1)
  -- impl cases
  rcases hB : bestOf D E with _ | ⟨f, g, a⟩
  · have hn : nextOf D E = (false, 0) := by unfold nextOf; rw [hB]
    by_cases hk : ImOk (0 + 1) ops
    · have hL := imB_len hk
      have hO := over_len (old := D) (d := (imB (0 + 1) ops)) (n := n) (by omega)
      have hO' := over_len (old := E) (d := (imB (0 + 1) ops)) (n := n) (by omega)
      repeat' ((conv => whnf); first
        | (refine areSlots2 D E (fun _ => ?_) (fun h => absurd h7 h))
        | (refine best.ac D E hd he (by omega) (by omega) (fun f g ops h1 => by rw [hB] at h1; cases h1) (fun _ => ?_))
        | (refine imageOf.ac (0 + 1) ops hi ho (fun _ => ?_) (fun h => absurd hk h))
        | (refine CloneB.ac D (by omega) (by omega) ?_)
        | (refine CloneB.ac E (by omega) (by omega) ?_)
        | (refine part_at (l := (imB (0 + 1) ops)) ⟨rfl, rfl, by rw [List.length_map]; omega⟩ ?_)
        | (refine andOk (by omega) ?_)
        | (refine copyR (l := D) ⟨rfl, rfl, by rw [List.length_map]; omega⟩ ?_; rw [copy_over (by omega) hL])
        | (refine bF_dec (fun _ => ?_) (fun _ => ?_) <;> try (exfalso; omega))
        | (refine bF_eq (fun _ => ?_) (fun _ => ?_) <;> try (exfalso; omega))
        | (refine bF_ne (fun _ => ?_) (fun _ => ?_) <;> try (exfalso; omega))
        | (refine a64 (by omega) ?_)
        | (refine ix_at rfl (by omega) ?_)
        | (refine ⟨⟨rfl, by omega, by omega⟩, ?_⟩)
        | (refine map_at (by omega) ?_)
        | (refine alen ?_)
        | (refine amin ?_)
        | (refine amax ?_)
        | (refine ⟨⟨rfl, rfl, by simp [V.ments]⟩, ?_⟩)
        | (refine map_at0 (by omega) ?_)
        | (refine set_at rfl ?_)
        | (refine map_atI (by omega) ?_)
        | (refine map_atI0 (by omega) ?_)
        | (refine set_atI rfl ?_)
        | (refine ⟨⟨by decide, rfl, by omega, by omega, by omega, by dsimp only; omega⟩, ?_⟩)
        | (refine arem (by omega) ?_)
        | (refine aquo (by omega) (by omega) ?_)
        | (refine au8 ?_)
        | (refine au64 (by omega) ?_)
        | (refine anat ?_)
        | (refine szOk rfl ?_)
        | (refine dvOk rfl (by omega) ?_)
        | (refine nzOk (by decide) ?_)
        | (refine lgOk (by kernel_rfl) ?_)
        | (refine kpOk (by kernel_rfl) ?_)
        | fail)
      all_goals conv => whnf
      have e := hK1 (overB D (imB (0 + 1) ops) n) E ((if_pos ⟨h7, by rw [hn]; exact hk⟩).trans (by rw [hn]; rfl))
      dsimp only [slM] at e
      rw [hO] at e
      exact e
    · repeat' ((conv => whnf); first
        | (refine areSlots2 D E (fun _ => ?_) (fun h => absurd h7 h))
        | (refine best.ac D E hd he (by omega) (by omega) (fun f g ops h1 => by rw [hB] at h1; cases h1) (fun _ => ?_))
        | (refine imageOf.ac (0 + 1) ops hi ho (fun h => absurd h hk) (fun _ => ?_))
        | (refine bF_dec (fun _ => ?_) (fun _ => ?_) <;> try (exfalso; omega))
        | (refine bF_eq (fun _ => ?_) (fun _ => ?_) <;> try (exfalso; omega))
        | (refine bF_ne (fun _ => ?_) (fun _ => ?_) <;> try (exfalso; omega))
        | (refine a64 (by omega) ?_)
        | (refine ix_at rfl (by omega) ?_)
        | (refine ⟨⟨rfl, by omega, by omega⟩, ?_⟩)
        | (refine map_at (by omega) ?_)
        | (refine alen ?_)
        | (refine amin ?_)
        | (refine amax ?_)
        | (refine ⟨⟨rfl, rfl, by simp [V.ments]⟩, ?_⟩)
        | (refine map_at0 (by omega) ?_)
        | (refine set_at rfl ?_)
        | (refine map_atI (by omega) ?_)
        | (refine map_atI0 (by omega) ?_)
        | (refine set_atI rfl ?_)
        | (refine ⟨⟨by decide, rfl, by omega, by omega, by omega, by dsimp only; omega⟩, ?_⟩)
        | (refine arem (by omega) ?_)
        | (refine aquo (by omega) (by omega) ?_)
        | (refine au8 ?_)
        | (refine au64 (by omega) ?_)
        | (refine anat ?_)
        | (refine szOk rfl ?_)
        | (refine dvOk rfl (by omega) ?_)
        | (refine nzOk (by decide) ?_)
        | (refine lgOk (by kernel_rfl) ?_)
        | (refine kpOk (by kernel_rfl) ?_)
        | fail)
      all_goals conv => whnf
      exact hK0 (if_neg fun h => hk (by have := h.2; rwa [hn] at this))
  have hg := better_le hB
  cases f
  · have hn : nextOf D E = (false, g) := by unfold nextOf; rw [hB]
    by_cases hk : ImOk (g + 1) ops
    · have hL := imB_len hk
      have hO := over_len (old := D) (d := (imB (g + 1) ops)) (n := n) (by omega)
      have hO' := over_len (old := E) (d := (imB (g + 1) ops)) (n := n) (by omega)
      repeat' ((conv => whnf); first
        | (refine areSlots2 D E (fun _ => ?_) (fun h => absurd h7 h))
        | (refine best.y hd he (by omega) (by omega) hB ?_)
        | (refine imageOf.ac (g + 1) ops hi ho (fun _ => ?_) (fun h => absurd hk h))
        | (refine CloneB.ac D (by omega) (by omega) ?_)
        | (refine CloneB.ac E (by omega) (by omega) ?_)
        | (refine part_at (l := (imB (g + 1) ops)) ⟨rfl, rfl, by rw [List.length_map]; omega⟩ ?_)
        | (refine andOk (by omega) ?_)
        | (refine copyR (l := D) ⟨rfl, rfl, by rw [List.length_map]; omega⟩ ?_; rw [copy_over (by omega) hL])
        | (refine bF_dec (fun _ => ?_) (fun _ => ?_) <;> try (exfalso; omega))
        | (refine bF_eq (fun _ => ?_) (fun _ => ?_) <;> try (exfalso; omega))
        | (refine bF_ne (fun _ => ?_) (fun _ => ?_) <;> try (exfalso; omega))
        | (refine a64 (by omega) ?_)
        | (refine ix_at rfl (by omega) ?_)
        | (refine ⟨⟨rfl, by omega, by omega⟩, ?_⟩)
        | (refine map_at (by omega) ?_)
        | (refine alen ?_)
        | (refine amin ?_)
        | (refine amax ?_)
        | (refine ⟨⟨rfl, rfl, by simp [V.ments]⟩, ?_⟩)
        | (refine map_at0 (by omega) ?_)
        | (refine set_at rfl ?_)
        | (refine map_atI (by omega) ?_)
        | (refine map_atI0 (by omega) ?_)
        | (refine set_atI rfl ?_)
        | (refine ⟨⟨by decide, rfl, by omega, by omega, by omega, by dsimp only; omega⟩, ?_⟩)
        | (refine arem (by omega) ?_)
        | (refine aquo (by omega) (by omega) ?_)
        | (refine au8 ?_)
        | (refine au64 (by omega) ?_)
        | (refine anat ?_)
        | (refine szOk rfl ?_)
        | (refine dvOk rfl (by omega) ?_)
        | (refine nzOk (by decide) ?_)
        | (refine lgOk (by kernel_rfl) ?_)
        | (refine kpOk (by kernel_rfl) ?_)
        | fail)
      all_goals conv => whnf
      have e := hK1 (overB D (imB (g + 1) ops) n) E ((if_pos ⟨h7, by rw [hn]; exact hk⟩).trans (by rw [hn]; rfl))
      dsimp only [slM] at e
      rw [hO] at e
      exact e
    · repeat' ((conv => whnf); first
        | (refine areSlots2 D E (fun _ => ?_) (fun h => absurd h7 h))
        | (refine best.y hd he (by omega) (by omega) hB ?_)
        | (refine imageOf.ac (g + 1) ops hi ho (fun h => absurd h hk) (fun _ => ?_))
        | (refine bF_dec (fun _ => ?_) (fun _ => ?_) <;> try (exfalso; omega))
        | (refine bF_eq (fun _ => ?_) (fun _ => ?_) <;> try (exfalso; omega))
        | (refine bF_ne (fun _ => ?_) (fun _ => ?_) <;> try (exfalso; omega))
        | (refine a64 (by omega) ?_)
        | (refine ix_at rfl (by omega) ?_)
        | (refine ⟨⟨rfl, by omega, by omega⟩, ?_⟩)
        | (refine map_at (by omega) ?_)
        | (refine alen ?_)
        | (refine amin ?_)
        | (refine amax ?_)
        | (refine ⟨⟨rfl, rfl, by simp [V.ments]⟩, ?_⟩)
        | (refine map_at0 (by omega) ?_)
        | (refine set_at rfl ?_)
        | (refine map_atI (by omega) ?_)
        | (refine map_atI0 (by omega) ?_)
        | (refine set_atI rfl ?_)
        | (refine ⟨⟨by decide, rfl, by omega, by omega, by omega, by dsimp only; omega⟩, ?_⟩)
        | (refine arem (by omega) ?_)
        | (refine aquo (by omega) (by omega) ?_)
        | (refine au8 ?_)
        | (refine au64 (by omega) ?_)
        | (refine anat ?_)
        | (refine szOk rfl ?_)
        | (refine dvOk rfl (by omega) ?_)
        | (refine nzOk (by decide) ?_)
        | (refine lgOk (by kernel_rfl) ?_)
        | (refine kpOk (by kernel_rfl) ?_)
        | fail)
      all_goals conv => whnf
      exact hK0 (if_neg fun h => hk (by have := h.2; rwa [hn] at this))
  · have hn : nextOf D E = (true, g) := by unfold nextOf; rw [hB]
    by_cases hk : ImOk (g + 1) ops
    · have hL := imB_len hk
      have hO := over_len (old := D) (d := (imB (g + 1) ops)) (n := n) (by omega)
      have hO' := over_len (old := E) (d := (imB (g + 1) ops)) (n := n) (by omega)
      repeat' ((conv => whnf); first
        | (refine areSlots2 D E (fun _ => ?_) (fun h => absurd h7 h))
        | (refine best.y hd he (by omega) (by omega) hB ?_)
        | (refine imageOf.ac (g + 1) ops hi ho (fun _ => ?_) (fun h => absurd hk h))
        | (refine CloneB.ac D (by omega) (by omega) ?_)
        | (refine CloneB.ac E (by omega) (by omega) ?_)
        | (refine part_at (l := (imB (g + 1) ops)) ⟨rfl, rfl, by rw [List.length_map]; omega⟩ ?_)
        | (refine andOk (by omega) ?_)
        | (refine copyR (l := E) ⟨rfl, rfl, by rw [List.length_map]; omega⟩ ?_; rw [copy_over (by omega) hL])
        | (refine bF_dec (fun _ => ?_) (fun _ => ?_) <;> try (exfalso; omega))
        | (refine bF_eq (fun _ => ?_) (fun _ => ?_) <;> try (exfalso; omega))
        | (refine bF_ne (fun _ => ?_) (fun _ => ?_) <;> try (exfalso; omega))
        | (refine a64 (by omega) ?_)
        | (refine ix_at rfl (by omega) ?_)
        | (refine ⟨⟨rfl, by omega, by omega⟩, ?_⟩)
        | (refine map_at (by omega) ?_)
        | (refine alen ?_)
        | (refine amin ?_)
        | (refine amax ?_)
        | (refine ⟨⟨rfl, rfl, by simp [V.ments]⟩, ?_⟩)
        | (refine map_at0 (by omega) ?_)
        | (refine set_at rfl ?_)
        | (refine map_atI (by omega) ?_)
        | (refine map_atI0 (by omega) ?_)
        | (refine set_atI rfl ?_)
        | (refine ⟨⟨by decide, rfl, by omega, by omega, by omega, by dsimp only; omega⟩, ?_⟩)
        | (refine arem (by omega) ?_)
        | (refine aquo (by omega) (by omega) ?_)
        | (refine au8 ?_)
        | (refine au64 (by omega) ?_)
        | (refine anat ?_)
        | (refine szOk rfl ?_)
        | (refine dvOk rfl (by omega) ?_)
        | (refine nzOk (by decide) ?_)
        | (refine lgOk (by kernel_rfl) ?_)
        | (refine kpOk (by kernel_rfl) ?_)
        | fail)
      all_goals conv => whnf
      have e := hK1 D (overB E (imB (g + 1) ops) n) ((if_pos ⟨h7, by rw [hn]; exact hk⟩).trans (by rw [hn]; rfl))
      dsimp only [slM] at e
      rw [hO'] at e
      exact e
    · repeat' ((conv => whnf); first
        | (refine areSlots2 D E (fun _ => ?_) (fun h => absurd h7 h))
        | (refine best.y hd he (by omega) (by omega) hB ?_)
        | (refine imageOf.ac (g + 1) ops hi ho (fun h => absurd h hk) (fun _ => ?_))
        | (refine bF_dec (fun _ => ?_) (fun _ => ?_) <;> try (exfalso; omega))
        | (refine bF_eq (fun _ => ?_) (fun _ => ?_) <;> try (exfalso; omega))
        | (refine bF_ne (fun _ => ?_) (fun _ => ?_) <;> try (exfalso; omega))
        | (refine a64 (by omega) ?_)
        | (refine ix_at rfl (by omega) ?_)
        | (refine ⟨⟨rfl, by omega, by omega⟩, ?_⟩)
        | (refine map_at (by omega) ?_)
        | (refine alen ?_)
        | (refine amin ?_)
        | (refine amax ?_)
        | (refine ⟨⟨rfl, rfl, by simp [V.ments]⟩, ?_⟩)
        | (refine map_at0 (by omega) ?_)
        | (refine set_at rfl ?_)
        | (refine map_atI (by omega) ?_)
        | (refine map_atI0 (by omega) ?_)
        | (refine set_atI rfl ?_)
        | (refine ⟨⟨by decide, rfl, by omega, by omega, by omega, by dsimp only; omega⟩, ?_⟩)
        | (refine arem (by omega) ?_)
        | (refine aquo (by omega) (by omega) ?_)
        | (refine au8 ?_)
        | (refine au64 (by omega) ?_)
        | (refine anat ?_)
        | (refine szOk rfl ?_)
        | (refine dvOk rfl (by omega) ?_)
        | (refine nzOk (by decide) ?_)
        | (refine lgOk (by kernel_rfl) ?_)
        | (refine kpOk (by kernel_rfl) ?_)
        | fail)
      all_goals conv => whnf
      exact hK0 (if_neg fun h => hk (by have := h.2; rwa [hn] at this))
end Go.Eng.T

namespace Go.Eng.T
open Go.Proofs Go.Eng Go.Eng.S
set_option maxRecDepth 100000
set_option maxHeartbeats 0

abbrev rsS (D E : List Int) : List (Nat × List V) := [(1, E.map encB), (1, D.map encB)]
theorem lendS {D E : List Int} {xs : List V} (hx : ∀ x ∈ xs, x.ments = []) : LendTo (rsS D E) (slM D E (0, 0) (0, 1) :: xs) (slV D E :: xs) :=
  ⟨.agg [.ls (0, 0) 1 0 D.length, .is 1 (E.map encB)] :: xs, .agg (.cons (.same (by simp [V.ments])) (.cons (.all (by simp)) .nil)) (lend_same hx), slV D E :: xs, .agg (.cons (.all (by simp)) (.cons (.same (by simp [V.ments])) .nil)) (lend_same hx), rfl⟩
theorem noIs_rsS {D E : List Int} : noIsO (objsOf (rsS D E)) = true := noIsO_app (noIsO_app rfl (noIs_rowB D)) (noIs_rowB E)
theorem AC.slots {f : FuncId} {D E : List Int} {xs : List V} (hx : ∀ x ∈ xs, x.ments = []) {K : V → List Obj → List Obj → Prop} (h : AC Try.prog f (slV D E :: xs) [] fun v o n => (v.noIs = true ∧ noIsO o = true ∧ noIsO n = true) ∧ K v (o ++ [rowB D, rowB E]) n) :
    AC Try.prog f (slM D E (0, 0) (0, 1) :: xs) [rowB D, rowB E] K := AC.borrowS (r := rsS D E) (lendS hx) noIs_rsS h
theorem AC.slots2 {f : FuncId} {a b c d : List Int} {K : V → List Obj → List Obj → Prop} (h : AC Try.prog f [slV a b, slV c d] [] fun v o n => (v.noIs = true ∧ noIsO o = true ∧ noIsO n = true) ∧ K v (o ++ [rowB a, rowB b, rowB c, rowB d]) n) :
    AC Try.prog f [slM a b (0, 0) (0, 1), slM c d (0, 2) (0, 3)] [rowB a, rowB b, rowB c, rowB d] K :=
  AC.borrowS (r := [(1, d.map encB), (1, c.map encB), (1, b.map encB), (1, a.map encB)])
    ⟨[slM a b (0, 0) (0, 1), .agg [.ls (0, 2) 1 0 c.length, .is 1 (d.map encB)]], .cons (.same (by simp [V.ments, mentsL])) (.agg (.cons (.same (by simp [V.ments])) (.cons (.all (by simp)) .nil)) .nil),
     [slM a b (0, 0) (0, 1), slV c d], .cons (.same (by simp [V.ments, mentsL])) (.agg (.cons (.all (by simp)) (.cons (.same (by simp [V.ments])) .nil)) .nil),
     [.agg [.ls (0, 0) 1 0 a.length, .is 1 (b.map encB)], slV c d], .agg (.cons (.same (by simp [V.ments])) (.cons (.all (by simp)) .nil)) (.cons (.same (by simp [V.ments, mentsL])) .nil),
     [slV a b, slV c d], .agg (.cons (.all (by simp)) (.cons (.same (by simp [V.ments])) .nil)) (.cons (.same (by simp [V.ments, mentsL])) .nil), rfl⟩
    (noIsO_app (noIsO_app (noIsO_app (noIsO_app rfl (noIs_rowB a)) (noIs_rowB b)) (noIs_rowB c)) (noIs_rowB d)) h
theorem AC.slotsO {f : FuncId} {D E : List Int} {ops : List OpR} {n : Int} {K : V → List Obj → List Obj → Prop} (h : AC Try.prog f [slV D E, .is 11 (ops.map encOp), iv n] [] fun v o n => (v.noIs = true ∧ noIsO o = true ∧ noIsO n = true) ∧ K v (o ++ [rowB D, rowB E, rowO ops]) n) :
    AC Try.prog f [slM D E (0, 0) (0, 1), .ls (0, 2) 11 0 ops.length, iv n] [rowB D, rowB E, rowO ops] K :=
  AC.borrowS (r := [(11, ops.map encOp), (1, E.map encB), (1, D.map encB)])
    ⟨[slM D E (0, 0) (0, 1), .is 11 (ops.map encOp), iv n], .cons (.same (by simp [V.ments, mentsL])) (.cons (.all (by simp)) (lend_same (by simp [V.ments]))),
     [.agg [.ls (0, 0) 1 0 D.length, .is 1 (E.map encB)], .is 11 (ops.map encOp), iv n], .agg (.cons (.same (by simp [V.ments])) (.cons (.all (by simp)) .nil)) (lend_same (by simp [V.ments])),
     [slV D E, .is 11 (ops.map encOp), iv n], .agg (.cons (.all (by simp)) (.cons (.same (by simp [V.ments])) .nil)) (lend_same (by simp [V.ments])), rfl⟩
    (noIsO_app (noIsO_app (noIsO_app rfl (noIs_rowB D)) (noIs_rowB E)) (noIs_rowO ops)) h
theorem bestI.y {D E : List Int} (hd : Bytes D) (he : Bytes E) {f : Bool} {g : Int} {ops : List OpR} (h : slotsOf D E = some (f, g, ops)) {K : V → List Obj → List Obj → Prop} (hK : K (.tup [iv g, .ls (1, 0) 11 0 ops.length, bv true]) [rowB D, rowB E] [rowO ops]) : AC Try.prog 30 [slM D E (0, 0) (0, 1)] [rowB D, rowB E] K :=
  AC.slots no_xs (SlotsBestI.ac D E hd he (fun f' g' ops' h' => by rw [h] at h'; cases h'; exact ⟨⟨rfl, rfl, noIs_rowO _⟩, hK⟩) fun h' => by rw [h] at h'; cases h')
theorem bestI.n {D E : List Int} (hd : Bytes D) (he : Bytes E) (h : slotsOf D E = none) {K : V → List Obj → List Obj → Prop} (hK : K (.tup [iv 0, nilS, bv false]) [rowB D, rowB E] []) : AC Try.prog 30 [slM D E (0, 0) (0, 1)] [rowB D, rowB E] K :=
  AC.slots no_xs (SlotsBestI.ac D E hd he (fun f' g' ops' h' => by rw [h] at h'; cases h') fun _ => ⟨⟨rfl, rfl, rfl⟩, hK⟩)
theorem bestS.y {D E : List Int} (hd : Bytes D) (he : Bytes E) {f : Bool} {g : Int} {ops : List OpR} (h : slotsOf D E = some (f, g, ops)) {K : V → List Obj → List Obj → Prop} (hK : K (.tup [iv g, .ls (1, 0) 11 0 ops.length, bv true]) [rowB D, rowB E] [rowO ops]) : AC Try.prog 28 [slM D E (0, 0) (0, 1)] [rowB D, rowB E] K :=
  AC.slots no_xs (SlotsBestS.ac D E hd he (fun f' g' ops' h' => by rw [h] at h'; cases h'; exact ⟨⟨rfl, rfl, noIs_rowO _⟩, hK⟩) fun h' => by rw [h] at h'; cases h')
theorem bestS.n {D E : List Int} (hd : Bytes D) (he : Bytes E) (h : slotsOf D E = none) {K : V → List Obj → List Obj → Prop} (hK : K (.tup [iv 0, nilS, bv false]) [rowB D, rowB E] []) : AC Try.prog 28 [slM D E (0, 0) (0, 1)] [rowB D, rowB E] K :=
  AC.slots no_xs (SlotsBestS.ac D E hd he (fun f' g' ops' h' => by rw [h] at h'; cases h') fun _ => ⟨⟨rfl, rfl, rfl⟩, hK⟩)
theorem eqSl (a b : List Int) (ha : a.length ≤ 10000000) (hb : b.length ≤ 10000000) {K : V → List Obj → List Obj → Prop} (hK : K (bv true) [rowB a, rowB b, rowB a, rowB b] []) : AC Try.prog 31 [slM a b (0, 0) (0, 1), slM a b (0, 2) (0, 3)] [rowB a, rowB b, rowB a, rowB b] K :=
  AC.slots2 (eqSlots2 a b a b ha hb (fun _ => ⟨⟨rfl, rfl, rfl⟩, hK⟩) fun h => absurd ⟨rfl, rfl⟩ h)
theorem slots_le {f : Bool} {g : Int} {ops : List OpR} {D E : List Int} (h : slotsOf D E = some (f, g, ops)) : ops.length ≤ 250 := by
  unfold slotsOf at h
  split at h
  · unfold bestOf at h
    rcases h1 : imgOf D with _ | ⟨g1, a⟩ <;> rcases h2 : imgOf E with _ | ⟨g2, b⟩ <;> rw [h1, h2] at h
    · cases h
    · cases h; exact (imgOf_some h2).1.1.2
    · cases h; exact (imgOf_some h1).1.1.2
    · simp only [better] at h
      split at h
      · cases h; exact (imgOf_some h1).1.1.2
      · cases h; exact (imgOf_some h2).1.1.2
  · cases h
theorem FnExactSlotsBest.ac (D E : List Int) (hd : Bytes D) (he : Bytes E) (hl : D.length ≤ 9223372036854775807) (hl' : E.length ≤ 9223372036854775807) {K : V → List Obj → List Obj → Prop} (hK : K (bv true) [] []) : AC Try.prog 6 [slV D E] [] K := by
  refine ac_body (ann []) [((997, 0), true), ((3, 0), true), ((26, 0), false), ((26, 1), false), ((27, 0), false), ((32, 0), false), ((32, 1), false), ((9, 0), true), ((35, 0), false), ((55, 0), false), ((55, 1), false), ((92, 0), false), ((92, 1), false), ((93, 0), false)] hm htt Try.func6 rfl (by kernel_rfl) rfl rfl ?_
  by_cases hs : (D.length : Int) + E.length ≤ 1048576
  rotate_left
  · repeat' ((conv => whnf); first
      | (refine szSlots.ac D E hl hl' (fun h => absurd h hs) (fun _ => ?_))
      | (refine bF_dec (fun _ => ?_) (fun _ => ?_) <;> try (exfalso; omega))
      | (refine bF_eq (fun _ => ?_) (fun _ => ?_) <;> try (exfalso; omega))
      | (refine bF_ne (fun _ => ?_) (fun _ => ?_) <;> try (exfalso; omega))
      | (refine a64 (by omega) ?_)
      | (refine ix_at rfl (by omega) ?_)
      | (refine ⟨⟨rfl, by omega, by omega⟩, ?_⟩)
      | (refine map_at (by omega) ?_)
      | (refine alen ?_)
      | (refine amin ?_)
      | (refine amax ?_)
      | (refine ⟨⟨rfl, rfl, by simp [V.ments]⟩, ?_⟩)
      | (refine map_at0 (by omega) ?_)
      | (refine set_at rfl ?_)
      | (refine map_atI (by omega) ?_)
      | (refine map_atI0 (by omega) ?_)
      | (refine set_atI rfl ?_)
      | (refine ⟨⟨by decide, rfl, by omega, by omega, by omega, by dsimp only; omega⟩, ?_⟩)
      | (refine arem (by omega) ?_)
      | (refine aquo (by omega) (by omega) ?_)
      | (refine au8 ?_)
      | (refine au64 (by omega) ?_)
      | (refine anat ?_)
      | (refine szOk rfl ?_)
      | (refine dvOk rfl (by omega) ?_)
      | (refine nzOk (by decide) ?_)
      | (refine lgOk (by kernel_rfl) ?_)
      | (refine kpOk (by kernel_rfl) ?_)
      | fail)
    all_goals conv => whnf
    exact hK
  rcases hB : slotsOf D E with _ | ⟨f, g, ops⟩
  · repeat' ((conv => whnf); first
      | (refine szSlots.ac D E hl hl' (fun _ => ?_) (fun h => absurd hs h))
      | (refine toSlots.ac D E (by omega) (by omega) ?_)
      | (refine bestS.n hd he hB ?_)
      | (refine bestI.n hd he hB ?_)
      | (refine eqNilO ?_)
      | (refine eqSl D E (by omega) (by omega) ?_)
      | (refine markSlots.ac D E (by omega) (by omega) fun A B _ _ => ?_)
      | (refine markNilO 1 ?_)
      | (refine heldNilO 1 ?_)
      | (refine bF_dec (fun _ => ?_) (fun _ => ?_) <;> try (exfalso; omega))
      | (refine bF_eq (fun _ => ?_) (fun _ => ?_) <;> try (exfalso; omega))
      | (refine bF_ne (fun _ => ?_) (fun _ => ?_) <;> try (exfalso; omega))
      | (refine a64 (by omega) ?_)
      | (refine ix_at rfl (by omega) ?_)
      | (refine ⟨⟨rfl, by omega, by omega⟩, ?_⟩)
      | (refine map_at (by omega) ?_)
      | (refine alen ?_)
      | (refine amin ?_)
      | (refine amax ?_)
      | (refine ⟨⟨rfl, rfl, by simp [V.ments]⟩, ?_⟩)
      | (refine map_at0 (by omega) ?_)
      | (refine set_at rfl ?_)
      | (refine map_atI (by omega) ?_)
      | (refine map_atI0 (by omega) ?_)
      | (refine set_atI rfl ?_)
      | (refine ⟨⟨by decide, rfl, by omega, by omega, by omega, by dsimp only; omega⟩, ?_⟩)
      | (refine arem (by omega) ?_)
      | (refine aquo (by omega) (by omega) ?_)
      | (refine au8 ?_)
      | (refine au64 (by omega) ?_)
      | (refine anat ?_)
      | (refine szOk rfl ?_)
      | (refine dvOk rfl (by omega) ?_)
      | (refine nzOk (by decide) ?_)
      | (refine lgOk (by kernel_rfl) ?_)
      | (refine kpOk (by kernel_rfl) ?_)
      | fail)
    all_goals conv => whnf
    exact hK
  · have ho := slots_le hB
    repeat' ((conv => whnf); first
      | (refine szSlots.ac D E hl hl' (fun _ => ?_) (fun h => absurd hs h))
      | (refine toSlots.ac D E (by omega) (by omega) ?_)
      | (refine bestS.y hd he hB ?_)
      | (refine bestI.y hd he hB ?_)
      | (refine eqO2 ops ops (by omega) (fun _ => ?_) (fun h => absurd rfl h))
      | (refine eqSl D E (by omega) (by omega) ?_)
      | (refine markSlots.ac D E (by omega) (by omega) fun A B _ _ => ?_)
      | (refine markO ops 1 (by omega) (by omega) fun M _ => ?_)
      | (refine heldO ops.length 1 (by omega) (by omega) ‹_› ?_)
      | (refine bF_ne (fun h => absurd rfl h) (fun _ => ?_))
      | (refine bF_dec (fun _ => ?_) (fun _ => ?_) <;> try (exfalso; omega))
      | (refine bF_eq (fun _ => ?_) (fun _ => ?_) <;> try (exfalso; omega))
      | (refine bF_ne (fun _ => ?_) (fun _ => ?_) <;> try (exfalso; omega))
      | (refine a64 (by omega) ?_)
      | (refine ix_at rfl (by omega) ?_)
      | (refine ⟨⟨rfl, by omega, by omega⟩, ?_⟩)
      | (refine map_at (by omega) ?_)
      | (refine alen ?_)
      | (refine amin ?_)
      | (refine amax ?_)
      | (refine ⟨⟨rfl, rfl, by simp [V.ments]⟩, ?_⟩)
      | (refine map_at0 (by omega) ?_)
      | (refine set_at rfl ?_)
      | (refine map_atI (by omega) ?_)
      | (refine map_atI0 (by omega) ?_)
      | (refine set_atI rfl ?_)
      | (refine ⟨⟨by decide, rfl, by omega, by omega, by omega, by dsimp only; omega⟩, ?_⟩)
      | (refine arem (by omega) ?_)
      | (refine aquo (by omega) (by omega) ?_)
      | (refine au8 ?_)
      | (refine au64 (by omega) ?_)
      | (refine anat ?_)
      | (refine szOk rfl ?_)
      | (refine dvOk rfl (by omega) ?_)
      | (refine nzOk (by decide) ?_)
      | (refine lgOk (by kernel_rfl) ?_)
      | (refine kpOk (by kernel_rfl) ?_)
      | fail)
    all_goals conv => whnf
    exact hK
end Go.Eng.T

namespace Go.Eng.T
open Go.Proofs Go.Eng Go.Eng.S
set_option maxRecDepth 100000
set_option maxHeartbeats 0

theorem szOpS.acG (ops : List OpR) (l : Int) (h0 : 0 ≤ l ∧ l ≤ 1048576) (hD : ops.length ≤ 9223372036854775807) {K : V → List Obj → List Obj → Prop} (hK1 : (ops.length : Int) ≤ l → K (iv (l - ops.length)) [] []) (hK0 : ¬ (ops.length : Int) ≤ l → K (iv (-1)) [] []) : AC Try.prog 17 [.is 11 (ops.map encOp), iv l] [] K := by
  refine ac_body (ann []) [((997, 0), true)] hm htt Try.func17 rfl (by kernel_rfl) rfl rfl ?_
  repeat' ((conv => whnf); first
    | (refine bF_dec (fun _ => ?_) (fun _ => ?_) <;> try (exfalso; omega))
    | (refine bF_eq (fun _ => ?_) (fun _ => ?_) <;> try (exfalso; omega))
    | (refine bF_ne (fun _ => ?_) (fun _ => ?_) <;> try (exfalso; omega))
    | (refine a64 (by omega) ?_)
    | (refine ix_at rfl (by omega) ?_)
    | (refine ⟨⟨rfl, by omega, by omega⟩, ?_⟩)
    | (refine map_at (by omega) ?_)
    | (refine alen ?_)
    | (refine amin ?_)
    | (refine amax ?_)
    | (refine ⟨⟨rfl, rfl, by simp [V.ments]⟩, ?_⟩)
    | (refine map_at0 (by omega) ?_)
    | (refine set_at rfl ?_)
    | (refine map_atI (by omega) ?_)
    | (refine map_atI0 (by omega) ?_)
    | (refine set_atI rfl ?_)
    | (refine ⟨⟨by decide, rfl, by omega, by omega, by omega, by dsimp only; omega⟩, ?_⟩)
    | (refine arem (by omega) ?_)
    | (refine aquo (by omega) (by omega) ?_)
    | (refine au8 ?_)
    | (refine au64 (by omega) ?_)
    | (refine anat ?_)
    | (refine szOk rfl ?_)
    | (refine dvOk rfl (by omega) ?_)
    | (refine nzOk (by decide) ?_)
    | (refine lgOk (by kernel_rfl) ?_)
    | (refine kpOk (by kernel_rfl) ?_)
    | fail)
  all_goals conv => whnf
  · exact hK0 (by omega)
  · exact hK1 (by omega)
theorem putR_len {D E : List Int} {ops : List OpR} {n : Int} {X Y : List Int} (h : putR D E ops n = some (X, Y)) : X.length = 7000 ∧ Y.length = 7000 := by
  unfold putR at h
  split at h
  · rename_i hc
    have hL := imB_len hc.2
    have := Option.some.inj h
    unfold putOf at this
    split at this
    · cases this; exact ⟨hc.1.1, (over_len (by omega)).trans hc.1.2⟩
    · cases this; exact ⟨(over_len (by omega)).trans hc.1.1, hc.1.2⟩
  · cases h
theorem putS.y {D E : List Int} (hd : Bytes D) (he : Bytes E) {ops : List OpR} {n : Int} (hi : ∀ o ∈ ops, o.ints) (ho : ops.length ≤ 10000000) {X Y : List Int} (h : putR D E ops n = some (X, Y)) {K : V → List Obj → List Obj → Prop} (hK : K (.tup [slM X Y (1, 0) (1, 1), bv true]) [rowB D, rowB E, rowO ops] [rowB X, rowB Y]) : AC Try.prog 33 [slM D E (0, 0) (0, 1), .ls (0, 2) 11 0 ops.length, iv n] [rowB D, rowB E, rowO ops] K :=
  AC.slotsO (SlotsPutS.ac D E hd he ops n hi ho (fun X' Y' h' => by rw [h] at h'; cases h'; exact ⟨⟨rfl, rfl, noIsO_app (noIs_rowB X) (noIs_rowB Y)⟩, hK⟩) fun h' => by rw [h] at h'; cases h')
theorem putS.n {D E : List Int} (hd : Bytes D) (he : Bytes E) {ops : List OpR} {n : Int} (hi : ∀ o ∈ ops, o.ints) (ho : ops.length ≤ 10000000) (h : putR D E ops n = none) {K : V → List Obj → List Obj → Prop} (hK : K (.tup [.agg [nilS, nilS], bv false]) [rowB D, rowB E, rowO ops] []) : AC Try.prog 33 [slM D E (0, 0) (0, 1), .ls (0, 2) 11 0 ops.length, iv n] [rowB D, rowB E, rowO ops] K :=
  AC.slotsO (SlotsPutS.ac D E hd he ops n hi ho (fun X' Y' h' => by rw [h] at h'; cases h') fun _ => ⟨⟨rfl, rfl, rfl⟩, hK⟩)
theorem putI.y {D E : List Int} (hd : Bytes D) (he : Bytes E) {ops : List OpR} {n : Int} (hi : ∀ o ∈ ops, o.ints) (ho : ops.length ≤ 10000000) {X Y : List Int} (h : putR D E ops n = some (X, Y)) {K : V → List Obj → List Obj → Prop} (hK : K (.tup [slM X Y (1, 0) (1, 1), bv true]) [rowB D, rowB E, rowO ops] [rowB X, rowB Y]) : AC Try.prog 34 [slM D E (0, 0) (0, 1), .ls (0, 2) 11 0 ops.length, iv n] [rowB D, rowB E, rowO ops] K :=
  AC.slotsO (SlotsPutI.ac D E hd he ops n hi ho (fun X' Y' h' => by rw [h] at h'; cases h'; exact ⟨⟨rfl, rfl, noIsO_app (noIs_rowB X) (noIs_rowB Y)⟩, hK⟩) fun h' => by rw [h] at h'; cases h')
theorem putI.n {D E : List Int} (hd : Bytes D) (he : Bytes E) {ops : List OpR} {n : Int} (hi : ∀ o ∈ ops, o.ints) (ho : ops.length ≤ 10000000) (h : putR D E ops n = none) {K : V → List Obj → List Obj → Prop} (hK : K (.tup [.agg [nilS, nilS], bv false]) [rowB D, rowB E, rowO ops] []) : AC Try.prog 34 [slM D E (0, 0) (0, 1), .ls (0, 2) 11 0 ops.length, iv n] [rowB D, rowB E, rowO ops] K :=
  AC.slotsO (SlotsPutI.ac D E hd he ops n hi ho (fun X' Y' h' => by rw [h] at h'; cases h') fun _ => ⟨⟨rfl, rfl, rfl⟩, hK⟩)
theorem eqSlNil {K : V → List Obj → List Obj → Prop} (hK : K (bv true) [] []) : AC Try.prog 31 [.agg [nilS, nilS], .agg [nilS, nilS]] [] K := by
  refine ac_body (ann []) [((997, 0), true), ((4, 0), true), ((5, 0), true)] hm htt Try.func31 rfl (by kernel_rfl) rfl rfl ?_
  repeat' ((conv => whnf); first
    | (refine eqNil ?_)
    | (refine bF_dec (fun _ => ?_) (fun _ => ?_) <;> try (exfalso; omega))
    | (refine bF_eq (fun _ => ?_) (fun _ => ?_) <;> try (exfalso; omega))
    | (refine bF_ne (fun _ => ?_) (fun _ => ?_) <;> try (exfalso; omega))
    | (refine a64 (by omega) ?_)
    | (refine ix_at rfl (by omega) ?_)
    | (refine ⟨⟨rfl, by omega, by omega⟩, ?_⟩)
    | (refine map_at (by omega) ?_)
    | (refine alen ?_)
    | (refine amin ?_)
    | (refine amax ?_)
    | (refine ⟨⟨rfl, rfl, by simp [V.ments]⟩, ?_⟩)
    | (refine map_at0 (by omega) ?_)
    | (refine set_at rfl ?_)
    | (refine map_atI (by omega) ?_)
    | (refine map_atI0 (by omega) ?_)
    | (refine set_atI rfl ?_)
    | (refine ⟨⟨by decide, rfl, by omega, by omega, by omega, by dsimp only; omega⟩, ?_⟩)
    | (refine arem (by omega) ?_)
    | (refine aquo (by omega) (by omega) ?_)
    | (refine au8 ?_)
    | (refine au64 (by omega) ?_)
    | (refine anat ?_)
    | (refine szOk rfl ?_)
    | (refine dvOk rfl (by omega) ?_)
    | (refine nzOk (by decide) ?_)
    | (refine lgOk (by kernel_rfl) ?_)
    | (refine kpOk (by kernel_rfl) ?_)
    | fail)
  all_goals conv => whnf
  exact hK
theorem markSlNil (z : Int) {K : V → List Obj → List Obj → Prop} (hK : K (iv z) [] []) : AC Try.prog 32 [.agg [nilS, nilS], iv z] [] K := by
  refine ac_body (ann []) [((997, 0), true), ((4, 0), true)] hm htt Try.func32 rfl (by kernel_rfl) rfl rfl ?_
  repeat' ((conv => whnf); first
    | (refine markNil _ ?_)
    | (refine bF_dec (fun _ => ?_) (fun _ => ?_) <;> try (exfalso; omega))
    | (refine bF_eq (fun _ => ?_) (fun _ => ?_) <;> try (exfalso; omega))
    | (refine bF_ne (fun _ => ?_) (fun _ => ?_) <;> try (exfalso; omega))
    | (refine a64 (by omega) ?_)
    | (refine ix_at rfl (by omega) ?_)
    | (refine ⟨⟨rfl, by omega, by omega⟩, ?_⟩)
    | (refine map_at (by omega) ?_)
    | (refine alen ?_)
    | (refine amin ?_)
    | (refine amax ?_)
    | (refine ⟨⟨rfl, rfl, by simp [V.ments]⟩, ?_⟩)
    | (refine map_at0 (by omega) ?_)
    | (refine set_at rfl ?_)
    | (refine map_atI (by omega) ?_)
    | (refine map_atI0 (by omega) ?_)
    | (refine set_atI rfl ?_)
    | (refine ⟨⟨by decide, rfl, by omega, by omega, by omega, by dsimp only; omega⟩, ?_⟩)
    | (refine arem (by omega) ?_)
    | (refine aquo (by omega) (by omega) ?_)
    | (refine au8 ?_)
    | (refine au64 (by omega) ?_)
    | (refine anat ?_)
    | (refine szOk rfl ?_)
    | (refine dvOk rfl (by omega) ?_)
    | (refine nzOk (by decide) ?_)
    | (refine lgOk (by kernel_rfl) ?_)
    | (refine kpOk (by kernel_rfl) ?_)
    | fail)
  all_goals conv => whnf
  exact hK
theorem heldSlNil {K : V → List Obj → List Obj → Prop} (hK : K (iv 1) [] []) : AC Try.prog 35 [.agg [nilS, nilS], iv 1] [] K := by
  refine ac_body (ann []) [((997, 0), true), ((4, 0), true)] hm htt Try.func35 rfl (by kernel_rfl) rfl rfl ?_
  repeat' ((conv => whnf); first
    | (refine heldNil _ ?_)
    | (refine bF_dec (fun _ => ?_) (fun _ => ?_) <;> try (exfalso; omega))
    | (refine bF_eq (fun _ => ?_) (fun _ => ?_) <;> try (exfalso; omega))
    | (refine bF_ne (fun _ => ?_) (fun _ => ?_) <;> try (exfalso; omega))
    | (refine a64 (by omega) ?_)
    | (refine ix_at rfl (by omega) ?_)
    | (refine ⟨⟨rfl, by omega, by omega⟩, ?_⟩)
    | (refine map_at (by omega) ?_)
    | (refine alen ?_)
    | (refine amin ?_)
    | (refine amax ?_)
    | (refine ⟨⟨rfl, rfl, by simp [V.ments]⟩, ?_⟩)
    | (refine map_at0 (by omega) ?_)
    | (refine set_at rfl ?_)
    | (refine map_atI (by omega) ?_)
    | (refine map_atI0 (by omega) ?_)
    | (refine set_atI rfl ?_)
    | (refine ⟨⟨by decide, rfl, by omega, by omega, by omega, by dsimp only; omega⟩, ?_⟩)
    | (refine arem (by omega) ?_)
    | (refine aquo (by omega) (by omega) ?_)
    | (refine au8 ?_)
    | (refine au64 (by omega) ?_)
    | (refine anat ?_)
    | (refine szOk rfl ?_)
    | (refine dvOk rfl (by omega) ?_)
    | (refine nzOk (by decide) ?_)
    | (refine lgOk (by kernel_rfl) ?_)
    | (refine kpOk (by kernel_rfl) ?_)
    | fail)
  all_goals conv => whnf
  exact hK
theorem heldSl (n m : Nat) {A B : List Int} (hA : A = mkB 1 n) (hB : B = mkB (1 + n) m) (hn : n ≤ 10000000) (hm' : m ≤ 10000000) {K : V → List Obj → List Obj → Prop} (hK : K (iv (1 + n + m)) [rowB A, rowB B] []) : AC Try.prog 35 [.agg [.ls (0, 0) 1 0 n, .ls (0, 1) 1 0 m], iv 1] [rowB A, rowB B] K := by
  have h1 : A.length = n := by rw [hA, mkB_len]
  have h2 : B.length = m := by rw [hB, mkB_len]
  have := AC.slots (D := A) (E := B) (xs := [iv 1]) (by simp [V.ments]) (heldSlots.ac n m hA hB hn hm' (K := fun v o n => (v.noIs = true ∧ noIsO o = true ∧ noIsO n = true) ∧ K v (o ++ [rowB A, rowB B]) n) ⟨⟨rfl, rfl, rfl⟩, hK⟩)
  dsimp only [slM] at this
  rwa [h1, h2] at this
theorem FnExactSlotsPut.ac (D E : List Int) (ops : List OpR) (n : Int) (hd : Bytes D) (he : Bytes E) (hi : ∀ o ∈ ops, o.ints) (hl : D.length ≤ 9223372036854775807) (hl' : E.length ≤ 9223372036854775807) (ho : ops.length ≤ 9223372036854775807) {K : V → List Obj → List Obj → Prop} (hK : K (bv true) [] []) : AC Try.prog 7 [slV D E, .is 11 (ops.map encOp), iv n] [] K := by
  refine ac_body (ann []) [((997, 0), true), ((5, 0), true), ((33, 0), false), ((33, 1), false), ((35, 0), false), ((37, 0), false), ((37, 1), false), ((10, 0), true), ((41, 0), false), ((41, 1), false), ((12, 0), true), ((43, 0), false), ((48, 0), false), ((48, 1), false), ((14, 0), true), ((62, 0), false), ((62, 1), false), ((67, 0), false), ((102, 0), false), ((102, 1), false), ((104, 0), false), ((106, 0), false), ((106, 1), false), ((19, 0), true)] hm htt Try.func7 rfl (by kernel_rfl) rfl rfl ?_
  by_cases hs : (D.length : Int) + E.length ≤ 1048576
  rotate_left
  · repeat' ((conv => whnf); first
      | (refine szSlots.ac D E hl hl' (fun h => absurd h hs) (fun _ => ?_))
      | (refine bF_dec (fun _ => ?_) (fun _ => ?_) <;> try (exfalso; omega))
      | (refine bF_eq (fun _ => ?_) (fun _ => ?_) <;> try (exfalso; omega))
      | (refine bF_ne (fun _ => ?_) (fun _ => ?_) <;> try (exfalso; omega))
      | (refine a64 (by omega) ?_)
      | (refine ix_at rfl (by omega) ?_)
      | (refine ⟨⟨rfl, by omega, by omega⟩, ?_⟩)
      | (refine map_at (by omega) ?_)
      | (refine alen ?_)
      | (refine amin ?_)
      | (refine amax ?_)
      | (refine ⟨⟨rfl, rfl, by simp [V.ments]⟩, ?_⟩)
      | (refine map_at0 (by omega) ?_)
      | (refine set_at rfl ?_)
      | (refine map_atI (by omega) ?_)
      | (refine map_atI0 (by omega) ?_)
      | (refine set_atI rfl ?_)
      | (refine ⟨⟨by decide, rfl, by omega, by omega, by omega, by dsimp only; omega⟩, ?_⟩)
      | (refine arem (by omega) ?_)
      | (refine aquo (by omega) (by omega) ?_)
      | (refine au8 ?_)
      | (refine au64 (by omega) ?_)
      | (refine anat ?_)
      | (refine szOk rfl ?_)
      | (refine dvOk rfl (by omega) ?_)
      | (refine nzOk (by decide) ?_)
      | (refine lgOk (by kernel_rfl) ?_)
      | (refine kpOk (by kernel_rfl) ?_)
      | fail)
    all_goals conv => whnf
    exact hK
  by_cases hs2 : (ops.length : Int) ≤ 1048576 - D.length - E.length
  rotate_left
  · repeat' ((conv => whnf); first
      | (refine szSlots.ac D E hl hl' (fun _ => ?_) (fun h => absurd hs h))
      | (refine szOpS.acG ops _ (by omega) ho (fun h => absurd h hs2) (fun _ => ?_))
      | (refine bF_dec (fun _ => ?_) (fun _ => ?_) <;> try (exfalso; omega))
      | (refine bF_eq (fun _ => ?_) (fun _ => ?_) <;> try (exfalso; omega))
      | (refine bF_ne (fun _ => ?_) (fun _ => ?_) <;> try (exfalso; omega))
      | (refine a64 (by omega) ?_)
      | (refine ix_at rfl (by omega) ?_)
      | (refine ⟨⟨rfl, by omega, by omega⟩, ?_⟩)
      | (refine map_at (by omega) ?_)
      | (refine alen ?_)
      | (refine amin ?_)
      | (refine amax ?_)
      | (refine ⟨⟨rfl, rfl, by simp [V.ments]⟩, ?_⟩)
      | (refine map_at0 (by omega) ?_)
      | (refine set_at rfl ?_)
      | (refine map_atI (by omega) ?_)
      | (refine map_atI0 (by omega) ?_)
      | (refine set_atI rfl ?_)
      | (refine ⟨⟨by decide, rfl, by omega, by omega, by omega, by dsimp only; omega⟩, ?_⟩)
      | (refine arem (by omega) ?_)
      | (refine aquo (by omega) (by omega) ?_)
      | (refine au8 ?_)
      | (refine au64 (by omega) ?_)
      | (refine anat ?_)
      | (refine szOk rfl ?_)
      | (refine dvOk rfl (by omega) ?_)
      | (refine nzOk (by decide) ?_)
      | (refine lgOk (by kernel_rfl) ?_)
      | (refine kpOk (by kernel_rfl) ?_)
      | fail)
    all_goals conv => whnf
    exact hK
  have ho' : ops.length ≤ 10000000 := by omega
  rcases hP : putR D E ops n with _ | ⟨X, Y⟩
  · repeat' ((conv => whnf); first
      | (refine szSlots.ac D E hl hl' (fun _ => ?_) (fun h => absurd hs h))
      | (refine szOpS.acG ops _ (by omega) ho (fun _ => ?_) (fun h => absurd hs2 h))
      | (refine toSlots.ac D E (by omega) (by omega) ?_)
      | (refine toOpS.ac ops (by omega) ?_)
      | (refine putS.n hd he hi ho' hP ?_)
      | (refine putI.n hd he hi ho' hP ?_)
      | (refine eqSlNil ?_)
      | (refine eqSl D E (by omega) (by omega) ?_)
      | (refine eqO2 ops ops (by omega) (fun _ => ?_) (fun h => absurd rfl h))
      | (refine markSlots.ac D E (by omega) (by omega) fun A B _ _ => ?_)
      | (refine markO ops _ (by omega) (by omega) fun M _ => ?_)
      | (refine markSlNil 1 ?_)
      | (refine heldSlNil ?_)
      | (refine bF_dec (fun _ => ?_) (fun _ => ?_) <;> try (exfalso; omega))
      | (refine bF_eq (fun _ => ?_) (fun _ => ?_) <;> try (exfalso; omega))
      | (refine bF_ne (fun _ => ?_) (fun _ => ?_) <;> try (exfalso; omega))
      | (refine a64 (by omega) ?_)
      | (refine ix_at rfl (by omega) ?_)
      | (refine ⟨⟨rfl, by omega, by omega⟩, ?_⟩)
      | (refine map_at (by omega) ?_)
      | (refine alen ?_)
      | (refine amin ?_)
      | (refine amax ?_)
      | (refine ⟨⟨rfl, rfl, by simp [V.ments]⟩, ?_⟩)
      | (refine map_at0 (by omega) ?_)
      | (refine set_at rfl ?_)
      | (refine map_atI (by omega) ?_)
      | (refine map_atI0 (by omega) ?_)
      | (refine set_atI rfl ?_)
      | (refine ⟨⟨by decide, rfl, by omega, by omega, by omega, by dsimp only; omega⟩, ?_⟩)
      | (refine arem (by omega) ?_)
      | (refine aquo (by omega) (by omega) ?_)
      | (refine au8 ?_)
      | (refine au64 (by omega) ?_)
      | (refine anat ?_)
      | (refine szOk rfl ?_)
      | (refine dvOk rfl (by omega) ?_)
      | (refine nzOk (by decide) ?_)
      | (refine lgOk (by kernel_rfl) ?_)
      | (refine kpOk (by kernel_rfl) ?_)
      | fail)
    all_goals conv => whnf
    exact hK
  · have hXY := putR_len hP
    repeat' ((conv => whnf); first
      | (refine szSlots.ac D E hl hl' (fun _ => ?_) (fun h => absurd hs h))
      | (refine szOpS.acG ops _ (by omega) ho (fun _ => ?_) (fun h => absurd hs2 h))
      | (refine toSlots.ac D E (by omega) (by omega) ?_)
      | (refine toOpS.ac ops (by omega) ?_)
      | (refine putS.y hd he hi ho' hP ?_)
      | (refine putI.y hd he hi ho' hP ?_)
      | (refine eqSl X Y (by omega) (by omega) ?_)
      | (refine eqSl D E (by omega) (by omega) ?_)
      | (refine eqO2 ops ops (by omega) (fun _ => ?_) (fun h => absurd rfl h))
      | (refine markSlots.ac D E (by omega) (by omega) fun A B _ _ => ?_)
      | (refine markO ops _ (by omega) (by omega) fun M _ => ?_)
      | (refine markSlots.ac X Y (by omega) (by omega) fun A B _ _ => ?_)
      | (refine heldSl X.length Y.length (by assumption) (by assumption) (by omega) (by omega) ?_)
      | (refine bF_ne (fun h => absurd rfl h) (fun _ => ?_))
      | (refine bF_dec (fun _ => ?_) (fun _ => ?_) <;> try (exfalso; omega))
      | (refine bF_eq (fun _ => ?_) (fun _ => ?_) <;> try (exfalso; omega))
      | (refine bF_ne (fun _ => ?_) (fun _ => ?_) <;> try (exfalso; omega))
      | (refine a64 (by omega) ?_)
      | (refine ix_at rfl (by omega) ?_)
      | (refine ⟨⟨rfl, by omega, by omega⟩, ?_⟩)
      | (refine map_at (by omega) ?_)
      | (refine alen ?_)
      | (refine amin ?_)
      | (refine amax ?_)
      | (refine ⟨⟨rfl, rfl, by simp [V.ments]⟩, ?_⟩)
      | (refine map_at0 (by omega) ?_)
      | (refine set_at rfl ?_)
      | (refine map_atI (by omega) ?_)
      | (refine map_atI0 (by omega) ?_)
      | (refine set_atI rfl ?_)
      | (refine ⟨⟨by decide, rfl, by omega, by omega, by omega, by dsimp only; omega⟩, ?_⟩)
      | (refine arem (by omega) ?_)
      | (refine aquo (by omega) (by omega) ?_)
      | (refine au8 ?_)
      | (refine au64 (by omega) ?_)
      | (refine anat ?_)
      | (refine szOk rfl ?_)
      | (refine dvOk rfl (by omega) ?_)
      | (refine nzOk (by decide) ?_)
      | (refine lgOk (by kernel_rfl) ?_)
      | (refine kpOk (by kernel_rfl) ?_)
      | fail)
    all_goals conv => whnf
    exact hK
end Go.Eng.T
