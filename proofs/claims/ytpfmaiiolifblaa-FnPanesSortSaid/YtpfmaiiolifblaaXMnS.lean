import Derived.Test.YtpfmaiiolifblaaXAgS4
namespace Go.Eng.T
open Go.Proofs Go.Eng
set_option maxRecDepth 100000
set_option maxHeartbeats 0

def Bits (l : List Int) : Prop := ∀ x ∈ l, 0 ≤ x ∧ x ≤ 1
theorem Bits.get {D : List Int} (h : Bits D) (i : Nat) : 0 ≤ D.getD i default ∧ D.getD i default ≤ 1 := by
  by_cases hi : i < D.length
  · rw [List.getD_eq_getElem?_getD, List.getElem?_eq_getElem hi]; exact h _ (List.getElem_mem hi)
  · rw [List.getD_eq_getElem?_getD, List.getElem?_eq_none (by omega)]; exact ⟨by decide, by decide⟩
theorem Bits.snoc {l : List Int} {x : Int} (h : Bits l) (hx : 0 ≤ x ∧ x ≤ 1) : Bits (l ++ [x]) := fun y hy => by
  rcases List.mem_append.1 hy with hy | hy
  · exact h y hy
  · rw [List.mem_singleton.1 hy]; exact hx
theorem Bits.set {Y : List Int} {i : Nat} {x : Int} (h : Bits Y) (hx : 0 ≤ x ∧ x ≤ 1) : Bits (Y.set i x) := fun y hy => by
  rcases List.mem_or_eq_of_mem_set hy with h1 | rfl
  · exact h y h1
  · exact hx
theorem l02Bits.ac (a b : Int) (hb : 0 ≤ b ∧ b ≤ 18446744073709551615) {K : V → List Obj → List Obj → Prop} (hK : ∀ l : List Int, l.length = 128 → Bits l → K (.is 1 (l.map iv)) [] []) : AC Try.prog 211 [.agg [iv a, uv b]] [] K := by
  refine AC.frz ?_
  refine ac_body (annW [] [(4, [1, 3, 4, 5], [(3, 0), (10, 1)]), (10, [3, 6, 7], [(10, 1)])] [(4, (10, 1), [10, 22]), (10, (10, 1), [37])]) [((997, 0), true), ((3, 0), true), ((10, 0), false), ((10, 1), false), ((21, 0), true), ((22, 0), false), ((36, 0), true), ((37, 0), false)] hm htt Try.func211 rfl (by kernel_rfl) rfl rfl ?_
  repeat' ((conv => whnf); first
    | (refine bF_dec (fun _ => ?_) (fun _ => ?_) <;> try (exfalso; omega))
    | (refine bF_eq (fun _ => ?_) (fun _ => ?_) <;> try (exfalso; omega))
    | (refine bF_ne (fun _ => ?_) (fun _ => ?_) <;> try (exfalso; omega))
    | (refine a64 (by omega) ?_)
    | (refine ix_at rfl (by omega) ?_)
    | (refine ⟨⟨rfl, by omega, by omega⟩, ?_⟩)
    | (refine map_at (by omega) ?_)
    | (refine alen ?_)
    | (refine amin ?_)
    | (refine amax ?_)
    | (refine ⟨⟨rfl, rfl, by simp [V.ments, mentsL]⟩, ?_⟩)
    | (refine map_at0 (by omega) ?_)
    | (refine set_at rfl ?_)
    | (refine map_atI (by omega) ?_)
    | (refine map_atI0 (by omega) ?_)
    | (refine set_atI rfl ?_)
    | (refine ⟨⟨by decide, rfl, by omega, by omega, by omega, by dsimp only; omega⟩, ?_⟩)
    | (refine arem (by omega) ?_)
    | (refine aquo (by omega) (by omega) ?_)
    | (refine au8 ?_)
    | (refine au64 (by omega) ?_)
    | (refine anat ?_)
    | (refine szOk rfl ?_)
    | (refine dvOk rfl (by omega) ?_)
    | (refine nzOk (by decide) ?_)
    | (refine lgOk (by kernel_rfl) ?_)
    | (refine kpOk (by kernel_rfl) ?_)
    | fail)
  all_goals conv => whnf
  refine cwF_loop (fun m st => ∃ (i : Nat) (x : Int) (l : List Int), (m = 64 - i ∧ i ≤ 64 ∧ l.length = i ∧ Bits l ∧ 0 ≤ x ∧ x ≤ 18446744073709551615) ∧
    st = ⟨[.un, .lp (3, 0) 2 0 0, .un, .ls (10, 1) 1 0 l.length, uv x, iv i] ++ List.replicate 33 .un, mkOb [((3, 0), some (.arr false 2 [.agg [iv a, uv b]])), ((10, 1), some (rowI l))]⟩) 64 (by kernel_rfl) ⟨0, b, [], ⟨rfl, by omega, rfl, (fun _ h => nomatch h), by omega, by omega⟩, rfl⟩ ?_
  rintro m st ⟨i, x, l, ⟨rfl, hi, hl, hb, x0, x1⟩, rfl⟩
  repeat' ((conv => whnf); first
    | (refine uquo (by omega) (by omega) ?_)
    | (refine au64M fun r hr => ?_)
    | (refine app1 (f := iv) ⟨by decide, rfl, rfl, by simp, ⟨by simp; omega, by simp; omega⟩, rfl, by simp [mentsOne]⟩ rfl ?_)
    | (refine bF_dec (fun _ => ?_) (fun _ => ?_) <;> try (exfalso; omega))
    | (refine bF_eq (fun _ => ?_) (fun _ => ?_) <;> try (exfalso; omega))
    | (refine bF_ne (fun _ => ?_) (fun _ => ?_) <;> try (exfalso; omega))
    | (refine a64 (by omega) ?_)
    | (refine ix_at rfl (by omega) ?_)
    | (refine ⟨⟨rfl, by omega, by omega⟩, ?_⟩)
    | (refine map_at (by omega) ?_)
    | (refine alen ?_)
    | (refine amin ?_)
    | (refine amax ?_)
    | (refine ⟨⟨rfl, rfl, by simp [V.ments, mentsL]⟩, ?_⟩)
    | (refine map_at0 (by omega) ?_)
    | (refine set_at rfl ?_)
    | (refine map_atI (by omega) ?_)
    | (refine map_atI0 (by omega) ?_)
    | (refine set_atI rfl ?_)
    | (refine ⟨⟨by decide, rfl, by omega, by omega, by omega, by dsimp only; omega⟩, ?_⟩)
    | (refine arem (by omega) ?_)
    | (refine aquo (by omega) (by omega) ?_)
    | (refine au8 ?_)
    | (refine au64 (by omega) ?_)
    | (refine anat ?_)
    | (refine szOk rfl ?_)
    | (refine dvOk rfl (by omega) ?_)
    | (refine nzOk (by decide) ?_)
    | (refine lgOk (by kernel_rfl) ?_)
    | (refine kpOk (by kernel_rfl) ?_)
    | fail)
  all_goals conv => whnf
  · exact ⟨64 - (i + 1), by omega, i + 1, _, _, ⟨rfl, by omega, by simp; omega, hb.snoc (by omega), by omega, by omega⟩, rfl⟩
  refine cwF_loop (fun m st => ∃ (i : Nat) (x : Int) (l : List Int), (m = 64 - i ∧ i ≤ 64 ∧ l.length = 64 + i ∧ Bits l ∧ 0 ≤ x ∧ x ≤ 18446744073709551615) ∧
    st = ⟨[.un, .un, .un, .ls (10, 1) 1 0 l.length, .un, .un, uv x, iv i] ++ List.replicate 31 .un, mkOb [((10, 1), some (rowI l))]⟩) 64 (by kernel_rfl) ⟨0, r, l, ⟨rfl, by omega, by omega, hb, by omega, by omega⟩, rfl⟩ ?_
  rintro m st ⟨i, x, l, ⟨rfl, hi, hl, hb, x0, x1⟩, rfl⟩
  repeat' ((conv => whnf); first
    | (refine uquo (by omega) (by omega) ?_)
    | (refine app1 (f := iv) ⟨by decide, rfl, rfl, by simp, ⟨by simp; omega, by simp; omega⟩, rfl, by simp [mentsOne]⟩ rfl ?_)
    | (refine bF_dec (fun _ => ?_) (fun _ => ?_) <;> try (exfalso; omega))
    | (refine bF_eq (fun _ => ?_) (fun _ => ?_) <;> try (exfalso; omega))
    | (refine bF_ne (fun _ => ?_) (fun _ => ?_) <;> try (exfalso; omega))
    | (refine a64 (by omega) ?_)
    | (refine ix_at rfl (by omega) ?_)
    | (refine ⟨⟨rfl, by omega, by omega⟩, ?_⟩)
    | (refine map_at (by omega) ?_)
    | (refine alen ?_)
    | (refine amin ?_)
    | (refine amax ?_)
    | (refine ⟨⟨rfl, rfl, by simp [V.ments, mentsL]⟩, ?_⟩)
    | (refine map_at0 (by omega) ?_)
    | (refine set_at rfl ?_)
    | (refine map_atI (by omega) ?_)
    | (refine map_atI0 (by omega) ?_)
    | (refine set_atI rfl ?_)
    | (refine ⟨⟨by decide, rfl, by omega, by omega, by omega, by dsimp only; omega⟩, ?_⟩)
    | (refine arem (by omega) ?_)
    | (refine aquo (by omega) (by omega) ?_)
    | (refine au8 ?_)
    | (refine au64 (by omega) ?_)
    | (refine anat ?_)
    | (refine szOk rfl ?_)
    | (refine dvOk rfl (by omega) ?_)
    | (refine nzOk (by decide) ?_)
    | (refine lgOk (by kernel_rfl) ?_)
    | (refine kpOk (by kernel_rfl) ?_)
    | fail)
  all_goals conv => whnf
  · exact ⟨64 - (i + 1), by omega, i + 1, _, _, ⟨rfl, by omega, by simp; omega, hb.snoc (by omega), by omega, by omega⟩, rfl⟩
  · exact frz1 (by simp) (hK l (by omega) hb)
theorem l02Divide.ac (B : List Int) (n : Int) (hB : B.length = 128) (h01 : Bits B) (hn : 1 ≤ n ∧ n ≤ 1000000) {K : V → List Obj → List Obj → Prop} (hK : ∀ (l : List Int) r, l.length = 128 → Bits l → 0 ≤ r → r < n → K (.tup [.is 1 (l.map iv), iv r]) [] []) : AC Try.prog 210 [.is 1 (B.map iv), iv n] [] K := by
  refine AC.frz ?_
  refine ac_body (annW [] [(4, [0, 1, 6, 7, 8], [(11, 0)])] []) [((997, 0), true), ((11, 0), false)] hm htt Try.func210 rfl (by kernel_rfl) rfl rfl ?_
  have h0 : Bits (List.replicate 128 0) := fun x hx => by rw [(List.mem_replicate.1 hx).2]; decide
  repeat' ((conv => whnf); first
    | (refine bF_dec (fun _ => ?_) (fun _ => ?_) <;> try (exfalso; omega))
    | (refine bF_eq (fun _ => ?_) (fun _ => ?_) <;> try (exfalso; omega))
    | (refine bF_ne (fun _ => ?_) (fun _ => ?_) <;> try (exfalso; omega))
    | (refine a64 (by omega) ?_)
    | (refine ix_at rfl (by omega) ?_)
    | (refine ⟨⟨rfl, by omega, by omega⟩, ?_⟩)
    | (refine map_at (by omega) ?_)
    | (refine alen ?_)
    | (refine amin ?_)
    | (refine amax ?_)
    | (refine ⟨⟨rfl, rfl, by simp [V.ments, mentsL]⟩, ?_⟩)
    | (refine map_at0 (by omega) ?_)
    | (refine set_at rfl ?_)
    | (refine map_atI (by omega) ?_)
    | (refine map_atI0 (by omega) ?_)
    | (refine set_atI rfl ?_)
    | (refine ⟨⟨by decide, rfl, by omega, by omega, by omega, by dsimp only; omega⟩, ?_⟩)
    | (refine arem (by omega) ?_)
    | (refine aquo (by omega) (by omega) ?_)
    | (refine au8 ?_)
    | (refine au64 (by omega) ?_)
    | (refine anat ?_)
    | (refine szOk rfl ?_)
    | (refine dvOk rfl (by omega) ?_)
    | (refine nzOk (by decide) ?_)
    | (refine lgOk (by kernel_rfl) ?_)
    | (refine kpOk (by kernel_rfl) ?_)
    | fail)
  all_goals conv => whnf
  refine cwF_loop (fun m st => ∃ (k r : Int) (l : List Int), (m = (k + 1).toNat ∧ -1 ≤ k ∧ k ≤ 127 ∧ l.length = 128 ∧ Bits l ∧ 0 ≤ r ∧ r < n) ∧
    st = ⟨[.is 1 (B.map iv), iv n, .un, .un, .un, .un, .ls (11, 0) 1 0 128, iv r, iv k] ++ List.replicate 23 .un, mkOb [((11, 0), some (rowI l))]⟩) 128 (by kernel_rfl) ⟨127, 0, List.replicate 128 0, ⟨rfl, by omega, by omega, rfl, h0, by omega, by omega⟩, rfl⟩ ?_
  rintro m st ⟨k, r, l, ⟨rfl, k0, k1, hl, hb, r0, r1⟩, rfl⟩
  have hg := h01.get k.toNat
  repeat' ((conv => whnf); first
    | (refine set_atI (x := (1 : Int)) rfl ?_)
    | (refine bF_dec (fun _ => ?_) (fun _ => ?_) <;> try (exfalso; omega))
    | (refine bF_eq (fun _ => ?_) (fun _ => ?_) <;> try (exfalso; omega))
    | (refine bF_ne (fun _ => ?_) (fun _ => ?_) <;> try (exfalso; omega))
    | (refine a64 (by omega) ?_)
    | (refine ix_at rfl (by omega) ?_)
    | (refine ⟨⟨rfl, by omega, by omega⟩, ?_⟩)
    | (refine map_at (by omega) ?_)
    | (refine alen ?_)
    | (refine amin ?_)
    | (refine amax ?_)
    | (refine ⟨⟨rfl, rfl, by simp [V.ments, mentsL]⟩, ?_⟩)
    | (refine map_at0 (by omega) ?_)
    | (refine set_at rfl ?_)
    | (refine map_atI (by omega) ?_)
    | (refine map_atI0 (by omega) ?_)
    | (refine set_atI rfl ?_)
    | (refine ⟨⟨by decide, rfl, by omega, by omega, by omega, by dsimp only; omega⟩, ?_⟩)
    | (refine arem (by omega) ?_)
    | (refine aquo (by omega) (by omega) ?_)
    | (refine au8 ?_)
    | (refine au64 (by omega) ?_)
    | (refine anat ?_)
    | (refine szOk rfl ?_)
    | (refine dvOk rfl (by omega) ?_)
    | (refine nzOk (by decide) ?_)
    | (refine lgOk (by kernel_rfl) ?_)
    | (refine kpOk (by kernel_rfl) ?_)
    | fail)
  all_goals conv => whnf
  · exact ⟨(k - 1 + 1).toNat, by omega, _, _, _, ⟨rfl, by omega, by omega, by rw [List.length_set]; exact hl, hb.set (by decide), by omega, by omega⟩, rfl⟩
  · exact ⟨(k - 1 + 1).toNat, by omega, _, _, _, ⟨rfl, by omega, by omega, hl, hb, by omega, by omega⟩, rfl⟩
  · exact ⟨_, [], 1, _, rfl, .tup (.cons (.all (by simp; omega)) (.cons (.same (by simp [V.ments])) .nil)), by simp, hK l r hl hb r0 r1⟩
theorem l02Wide.ac (B : List Int) (hB : B.length = 128) (h01 : Bits B) {K : V → List Obj → List Obj → Prop} (hK : ∀ v, R127 v → K (wv v) [] []) : AC Try.prog 212 [.is 1 (B.map iv)] [] K := by
  have hK' : ∀ a b, I64 a → (0 ≤ b ∧ b ≤ 18446744073709551615) → K (.agg [iv a, uv b]) [] [] := fun a b ha hb => by
    have e := wparts ha hb
    have := hK (a * 18446744073709551616 + b) (by unfold R127; unfold I64 at ha; omega)
    rwa [wv, e.1, e.2] at this
  refine ac_body (annW [] [(4, [0, 2, 3, 4, 5], [(4, 0)])] []) [((997, 0), true), ((4, 0), true)] hm htt Try.func212 rfl (by kernel_rfl) rfl rfl ?_
  repeat' ((conv => whnf); first
    | (refine bF_dec (fun _ => ?_) (fun _ => ?_) <;> try (exfalso; omega))
    | (refine bF_eq (fun _ => ?_) (fun _ => ?_) <;> try (exfalso; omega))
    | (refine bF_ne (fun _ => ?_) (fun _ => ?_) <;> try (exfalso; omega))
    | (refine a64 (by omega) ?_)
    | (refine ix_at rfl (by omega) ?_)
    | (refine ⟨⟨rfl, by omega, by omega⟩, ?_⟩)
    | (refine map_at (by omega) ?_)
    | (refine alen ?_)
    | (refine amin ?_)
    | (refine amax ?_)
    | (refine ⟨⟨rfl, rfl, by simp [V.ments, mentsL]⟩, ?_⟩)
    | (refine map_at0 (by omega) ?_)
    | (refine set_at rfl ?_)
    | (refine map_atI (by omega) ?_)
    | (refine map_atI0 (by omega) ?_)
    | (refine set_atI rfl ?_)
    | (refine ⟨⟨by decide, rfl, by omega, by omega, by omega, by dsimp only; omega⟩, ?_⟩)
    | (refine arem (by omega) ?_)
    | (refine aquo (by omega) (by omega) ?_)
    | (refine au8 ?_)
    | (refine au64 (by omega) ?_)
    | (refine anat ?_)
    | (refine szOk rfl ?_)
    | (refine dvOk rfl (by omega) ?_)
    | (refine nzOk (by decide) ?_)
    | (refine lgOk (by kernel_rfl) ?_)
    | (refine kpOk (by kernel_rfl) ?_)
    | fail)
  all_goals conv => whnf
  refine cwF_loop (fun m st => ∃ (k x y : Int), (m = (k + 1).toNat ∧ -1 ≤ k ∧ k ≤ 63 ∧ 0 ≤ x ∧ x ≤ 18446744073709551615 ∧ 0 ≤ y ∧ y ≤ 18446744073709551615) ∧
    st = ⟨[.is 1 (B.map iv), .un, .lp (4, 0) 2 0 0, uv x, uv y, iv k] ++ List.replicate 25 .un, mkOb [((4, 0), some (.arr false 2 [.agg [iv 0, uv 0]]))]⟩) 64 (by kernel_rfl) ⟨63, 0, 0, ⟨rfl, by omega, by omega, by omega, by omega, by omega, by omega⟩, rfl⟩ ?_
  rintro m st ⟨k, x, y, ⟨rfl, k0, k1, x0, x1, y0, y1⟩, rfl⟩
  repeat' ((conv => whnf); first
    | (refine a64 (by omega) ?_)
    | (refine au64M fun r hr => ?_)
    | (refine ai64M fun r hr => ?_)
    | (refine bF_dec (fun _ => ?_) (fun _ => ?_) <;> try (exfalso; omega))
    | (refine bF_eq (fun _ => ?_) (fun _ => ?_) <;> try (exfalso; omega))
    | (refine bF_ne (fun _ => ?_) (fun _ => ?_) <;> try (exfalso; omega))
    | (refine a64 (by omega) ?_)
    | (refine ix_at rfl (by omega) ?_)
    | (refine ⟨⟨rfl, by omega, by omega⟩, ?_⟩)
    | (refine map_at (by omega) ?_)
    | (refine alen ?_)
    | (refine amin ?_)
    | (refine amax ?_)
    | (refine ⟨⟨rfl, rfl, by simp [V.ments, mentsL]⟩, ?_⟩)
    | (refine map_at0 (by omega) ?_)
    | (refine set_at rfl ?_)
    | (refine map_atI (by omega) ?_)
    | (refine map_atI0 (by omega) ?_)
    | (refine set_atI rfl ?_)
    | (refine ⟨⟨by decide, rfl, by omega, by omega, by omega, by dsimp only; omega⟩, ?_⟩)
    | (refine arem (by omega) ?_)
    | (refine aquo (by omega) (by omega) ?_)
    | (refine au8 ?_)
    | (refine au64 (by omega) ?_)
    | (refine anat ?_)
    | (refine szOk rfl ?_)
    | (refine dvOk rfl (by omega) ?_)
    | (refine nzOk (by decide) ?_)
    | (refine lgOk (by kernel_rfl) ?_)
    | (refine kpOk (by kernel_rfl) ?_)
    | fail)
  all_goals conv => whnf
  · exact ⟨(k - 1 + 1).toNat, by omega, _, _, _, ⟨rfl, by omega, by omega, by omega, by omega, by omega, by omega⟩, rfl⟩
  · exact hK' _ _ (by unfold I64; omega) (by omega)
theorem WideIntS.weak (a : Int) {K : V → List Obj → List Obj → Prop} (hK : ∀ m b, I64 m → K (.tup [iv m, bv b]) [] []) : AC Try.prog 143 [wv a] [] K := by
  have h := WideIntS.ac (wsg a) (wsg_R a) (K := K) (fun h => hK _ _ h) (fun _ => hK _ _ (by unfold I64; decide))
  rwa [wv, wsg_hi, wsg_lo] at h
/-- A mean, of which only the range is kept. -/
theorem MeanS.ac (s n : Int) (hs : R127 s) {K : V → List Obj → List Obj → Prop} (hK : ∀ m b, I64 m → K (.tup [iv m, bv b]) [] []) : AC Try.prog 144 [wv s, iv n] [] K := by
  have lb := wlo_b s
  have hb := whi_b s
  have lb2 := wlo_b (-s)
  refine ac_body (ann []) [((997, 0), true), ((4, 0), true), ((12, 0), true)] hm htt Try.func144 rfl (by kernel_rfl) rfl rfl ?_
  repeat' ((conv => whnf); first
    | (refine l02Bits.ac _ _ (by omega) fun l hl h01 => ?_)
    | (refine l02Divide.ac l n hl h01 (by omega) fun q r hq hq2 _ _ => ?_)
    | (refine l02Wide.ac q hq hq2 fun v hv => ?_)
    | (refine WideNegS.ac _ ?_)
    | (refine WideOfS.ac _ (by unfold I64; omega) ?_)
    | (refine WideAddS.ac _ _ ?_)
    | (refine WideIntS.weak _ fun m b hm => ?_)
    | (refine bF_dec (fun _ => ?_) (fun _ => ?_) <;> try (exfalso; omega))
    | (refine bF_eq (fun _ => ?_) (fun _ => ?_) <;> try (exfalso; omega))
    | (refine bF_ne (fun _ => ?_) (fun _ => ?_) <;> try (exfalso; omega))
    | (refine a64 (by omega) ?_)
    | (refine ix_at rfl (by omega) ?_)
    | (refine ⟨⟨rfl, by omega, by omega⟩, ?_⟩)
    | (refine map_at (by omega) ?_)
    | (refine alen ?_)
    | (refine amin ?_)
    | (refine amax ?_)
    | (refine ⟨⟨rfl, rfl, by simp [V.ments, mentsL]⟩, ?_⟩)
    | (refine map_at0 (by omega) ?_)
    | (refine set_at rfl ?_)
    | (refine map_atI (by omega) ?_)
    | (refine map_atI0 (by omega) ?_)
    | (refine set_atI rfl ?_)
    | (refine ⟨⟨by decide, rfl, by omega, by omega, by omega, by dsimp only; omega⟩, ?_⟩)
    | (refine arem (by omega) ?_)
    | (refine aquo (by omega) (by omega) ?_)
    | (refine au8 ?_)
    | (refine au64 (by omega) ?_)
    | (refine anat ?_)
    | (refine szOk rfl ?_)
    | (refine dvOk rfl (by omega) ?_)
    | (refine nzOk (by decide) ?_)
    | (refine lgOk (by kernel_rfl) ?_)
    | (refine kpOk (by kernel_rfl) ?_)
    | fail)
  all_goals conv => whnf
  all_goals first | exact hK _ _ (by assumption) | exact hK _ _ (by unfold I64; omega)
end Go.Eng.T
