import Derived.Test.YtpfmaiiolifblaaXMnS
import Derived.Test.YtpfmaiiolifblaaXExS
import Derived.Test.YtpfmaiiolifblaaXBxA
namespace Go.Eng.T
open Go.Proofs Go.Eng
set_option maxRecDepth 100000
set_option maxHeartbeats 0

/-- What is told by less. -/
def Wk (x y : V) : Prop := ∀ {F : Cells} {m : Mem} {pl : Places} {cv : Value}, RepV F m pl x cv → RepV F m pl y cv
inductive WkL : List V → List V → Prop
  | nil : WkL [] []
  | cons {x y xs ys} : Wk x y → WkL xs ys → WkL (x :: xs) (y :: ys)
theorem WkL.get : ∀ {xs ys : List V}, WkL xs ys → xs.length = ys.length ∧ ∀ (i : Nat) y, ys[i]? = some y → ∃ x, xs[i]? = some x ∧ Wk x y
  | _, _, .nil => ⟨rfl, fun i y h => by simp at h⟩
  | _, _, .cons (x := x) (y := y) (xs := xs) (ys := ys) h hs => ⟨by rw [List.length_cons, List.length_cons, (WkL.get hs).1], fun i z hz => by
    cases i with
    | zero => obtain rfl : y = z := by simpa using hz
              exact ⟨x, rfl, h⟩
    | succ i => exact (WkL.get hs).2 i z (by simpa using hz)⟩
theorem WkL.refl : ∀ {xs : List V}, WkL xs xs
  | [] => .nil
  | _ :: _ => .cons (fun h => h) WkL.refl
theorem Wk.refl {x : V} : Wk x x := fun h => h
theorem Wk.nil {n : Nat} : Wk nilS (.is n []) := fun h => nil_is h
theorem Wk.agg {xs ys : List V} (h : WkL xs ys) : Wk (.agg xs) (.agg ys) := fun hr => by
  cases hr with
  | agg cs h1 h2 =>
    refine .agg cs (by rw [h1, h.get.1]) fun i y hi hy => ?_
    obtain ⟨x, e, hw⟩ := h.get.2 i y hy
    exact hw (h2 i x hi e)
theorem Wk.tup {xs ys : List V} (h : WkL xs ys) : Wk (.tup xs) (.tup ys) := fun hr => by
  cases hr with
  | tup cs h1 h2 =>
    refine .tup cs (by rw [h1, h.get.1]) fun i y hi hy => ?_
    obtain ⟨x, e, hw⟩ := h.get.2 i y hy
    exact hw (h2 i x hi e)
theorem Ints.one {x : Int} (h : I64 x) : Ints [x] := fun y hy => by rw [List.mem_singleton.1 hy]; exact h
theorem Ints.nil : Ints [] := fun _ h => nomatch h
theorem Ints.take {l : List Int} (h : Ints l) (n : Nat) : Ints (l.take n) := fun y hy => h y (List.mem_of_mem_take hy)
theorem Ints.snoc {l : List Int} {x : Int} (h : Ints l) (hx : I64 x) : Ints (l ++ [x]) := fun y hy => by
  rcases List.mem_append.1 hy with hy | hy
  · exact h y hy
  · rw [List.mem_singleton.1 hy]; exact hx
def DnP (kind kk n s mn mx : Int) (top vs : List Int) (o : Bool) : Prop := AgOk ⟨n, s, mn, mx, top⟩ → 1 ≤ n → kind = 2 → kk = 0 → (I64 s ∧ vs = [s] ∧ o = false) ∨ (¬ I64 s ∧ vs = [] ∧ o = true)
theorem AggDoneS.ac (kind kk n s mn mx : Int) (top : List Int) (hn : I64 n) (hs : R127 s) (hmn : I64 mn) (hmx : I64 mx) (ht : Ints top) (htl : top.length ≤ 100000) (hkk : I64 kk) {K : V → List Obj → List Obj → Prop}
    (hK : ∀ (vs : List Int) (o : Bool), Ints vs → vs.length ≤ 4 → DnP kind kk n s mn mx top vs o → K (.tup [.is 1 (vs.map iv), bv o]) [] []) : AC Try.prog 59 [iv kind, iv kk, .agg [iv n, iv (whi s), uv (wlo s), iv mn, iv mx, .is 1 (top.map iv)]] [] K := by
  have hlm : (top.map iv).length = top.length := List.length_map ..
  refine AC.weak (AC.frzO ?_)
  have row : ∀ (vs : List Int) (o : Bool) l, l = vs.length → Ints vs → vs.length ≤ 4 → DnP kind kk n s mn mx top vs o → FrO (fun v o n => ∃ v', Wk v v' ∧ K v' o n) (.tup [.ls (1, 0) 1 0 l, bv o]) [] [rowI vs] := fun vs o l hl h1 h2 h3 =>
    .inl ⟨.tup [.is 1 (vs.map iv), bv o], [], 1, _, rfl, .tup (.cons (.all (by rw [hl]; simp)) (.cons (.same (by simp [V.ments])) .nil)), by simp, ⟨_, Wk.refl, hK vs o h1 h2 h3⟩⟩
  have non : ∀ (o : Bool), DnP kind kk n s mn mx top [] o → FrO (fun v o n => ∃ v', Wk v v' ∧ K v' o n) (.tup [nilS, bv o]) [] [] := fun o h3 =>
    .inr ⟨.tup [.is 1 [], bv o], Wk.tup (.cons Wk.nil (.cons Wk.refl .nil)), hK [] o Ints.nil (by simp) h3⟩
  refine ac_body (ann []) [((997, 0), true), ((7, 0), true), ((33, 0), true), ((45, 0), true), ((50, 0), true), ((55, 0), true), ((67, 0), true), ((68, 0), false), ((77, 0), false)] hm htt Try.func59 rfl (by kernel_rfl) rfl rfl ?_
  unfold I64 at hkk
  repeat' ((conv => whnf); first
    | (refine AggOkS2 _ s _ _ top hn hs hmn hmx ht htl (fun _ => ?_) (fun _ => ?_))
    | (refine KindS2 _ _ (fun _ => ?_) (fun _ => ?_))
    | (refine WideIntS.ac s hs (fun _ => ?_) (fun _ => ?_))
    | (refine MeanS.ac s _ hs fun m b hm => ?_)
    | (refine appN (f := iv) ⟨by decide, rfl, rfl, by simp, ⟨by simp; omega, by simp; omega⟩, rfl, by simp [mentsOne]⟩ ?_)
    | (refine cutN 0 (min kk top.length).toNat (by simp only [List.length_map]; omega) (by omega) (by omega) ?_)
    | (refine bF_dec (fun _ => ?_) (fun _ => ?_) <;> try (exfalso; omega))
    | (refine bF_eq (fun _ => ?_) (fun _ => ?_) <;> try (exfalso; omega))
    | (refine bF_ne (fun _ => ?_) (fun _ => ?_) <;> try (exfalso; omega))
    | (refine a64 (by omega) ?_)
    | (refine ix_at rfl (by omega) ?_)
    | (refine ⟨⟨rfl, by omega, by omega⟩, ?_⟩)
    | (refine map_at (by omega) ?_)
    | (refine alen ?_)
    | (refine amin ?_)
    | (refine amax ?_)
    | (refine ⟨⟨rfl, rfl, by simp [V.ments, mentsL]⟩, ?_⟩)
    | (refine map_at0 (by omega) ?_)
    | (refine set_at rfl ?_)
    | (refine map_atI (by omega) ?_)
    | (refine map_atI0 (by omega) ?_)
    | (refine set_atI rfl ?_)
    | (refine ⟨⟨by decide, rfl, by omega, by omega, by omega, by dsimp only; omega⟩, ?_⟩)
    | (refine arem (by omega) ?_)
    | (refine aquo (by omega) (by omega) ?_)
    | (refine au8 ?_)
    | (refine au64 (by omega) ?_)
    | (refine anat ?_)
    | (refine szOk rfl ?_)
    | (refine dvOk rfl (by omega) ?_)
    | (refine nzOk (by decide) ?_)
    | (refine lgOk (by kernel_rfl) ?_)
    | (refine kpOk (by kernel_rfl) ?_)
    | fail)
  all_goals conv => whnf
  all_goals first
    | exact non _ fun h1 h2 h3 h4 => absurd h1 (by assumption)
    | exact non _ fun h1 h2 h3 h4 => absurd (⟨h3, h4⟩ : kind = 2 ∧ kk = 0) (by omega)
    | exact non _ fun h1 h2 h3 h4 => absurd h2 (by omega)
    | exact non _ fun h1 h2 h3 h4 => .inr ⟨by assumption, rfl, rfl⟩
    | exact row [_] _ _ rfl (Ints.one (by assumption)) (by simp) fun h1 h2 h3 h4 => absurd h3 (by omega)
    | exact row [_] _ _ rfl (Ints.one (by assumption)) (by simp) fun h1 h2 h3 h4 => .inl ⟨by assumption, rfl, rfl⟩
    | exact row _ _ _ rfl (Ints.take (by rw [List.drop_zero]; exact ht) _) (by simp; omega) fun h1 h2 h3 h4 => absurd h3 (by omega)
    | trace_state
end Go.Eng.T
