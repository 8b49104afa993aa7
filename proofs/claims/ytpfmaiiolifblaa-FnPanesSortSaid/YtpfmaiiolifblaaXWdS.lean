import Derived.Test.YtpfmaiiolifblaaXD1
import Derived.Test.YtpfmaiiolifblaaXWdTh
namespace Go.Eng.T
open Go.Proofs Go.Eng
set_option maxRecDepth 100000
set_option maxHeartbeats 0

/-- A number of 128 bits. -/
abbrev wv (v : Int) : V := .agg [iv (whi v), uv (wlo v)]
theorem wrap_i64_mod {x : Int} : IntKind.i64.wrap x = (x + 9223372036854775808) % 18446744073709551616 - 9223372036854775808 := by
  simp only [IntKind.wrap, IntKind.signed, IntKind.bits]
  simp
  omega
theorem au64M {x : Int} {K : Int → Prop} (k : ∀ r, r = x % 18446744073709551616 → K r) : ∀ r, r = IntKind.u64.wrap x → K r := fun r hr => k r (by rw [hr, wrap_u64_mod])
theorem ai64M {x : Int} {K : Int → Prop} (k : ∀ r, r = (x + 9223372036854775808) % 18446744073709551616 - 9223372036854775808 → K r) : ∀ r, r = IntKind.i64.wrap x → K r := fun r hr => k r (by rw [hr, wrap_i64_mod])
theorem WideOfS.ac (n : Int) (h : I64 n) {K : V → List Obj → List Obj → Prop} (hK : K (wv n) [] []) : AC Try.prog 138 [iv n] [] K := by
  have hK' : ∀ a b, a = whi n → b = wlo n → K (.agg [iv a, uv b]) [] [] := by rintro _ _ rfl rfl; exact hK
  unfold I64 at h
  refine ac_body (ann []) [((997, 0), true), ((4, 0), true)] hm htt Try.func138 rfl (by kernel_rfl) rfl rfl ?_
  repeat' ((conv => whnf); first
    | (refine au64M fun r hr => ?_)
    | (refine bF_dec (fun _ => ?_) (fun _ => ?_) <;> try (exfalso; omega))
    | (refine bF_eq (fun _ => ?_) (fun _ => ?_) <;> try (exfalso; omega))
    | (refine bF_ne (fun _ => ?_) (fun _ => ?_) <;> try (exfalso; omega))
    | (refine a64 (by omega) ?_)
    | (refine ix_at rfl (by omega) ?_)
    | (refine ⟨⟨rfl, by omega, by omega⟩, ?_⟩)
    | (refine map_at (by omega) ?_)
    | (refine alen ?_)
    | (refine amin ?_)
    | (refine amax ?_)
    | (refine ⟨⟨rfl, rfl, by simp [V.ments, mentsL]⟩, ?_⟩)
    | (refine map_at0 (by omega) ?_)
    | (refine set_at rfl ?_)
    | (refine map_atI (by omega) ?_)
    | (refine map_atI0 (by omega) ?_)
    | (refine set_atI rfl ?_)
    | (refine ⟨⟨by decide, rfl, by omega, by omega, by omega, by dsimp only; omega⟩, ?_⟩)
    | (refine arem (by omega) ?_)
    | (refine aquo (by omega) (by omega) ?_)
    | (refine au8 ?_)
    | (refine au64 (by omega) ?_)
    | (refine anat ?_)
    | (refine szOk rfl ?_)
    | (refine dvOk rfl (by omega) ?_)
    | (refine nzOk (by decide) ?_)
    | (refine lgOk (by kernel_rfl) ?_)
    | (refine kpOk (by kernel_rfl) ?_)
    | fail)
  all_goals conv => whnf
  all_goals exact hK' _ _ (by unfold whi; omega) (by unfold wlo; omega)
theorem WideAddS.ac (a b : Int) {K : V → List Obj → List Obj → Prop} (hK : K (wv (a + b)) [] []) : AC Try.prog 137 [wv a, wv b] [] K := by
  have hK' : ∀ x y, x = whi (a + b) → y = wlo (a + b) → K (.agg [iv x, uv y]) [] [] := by rintro _ _ rfl rfl; exact hK
  have ha := whi_b a
  have hb := whi_b b
  have la := wlo_b a
  have lb := wlo_b b
  refine ac_body (ann []) [((997, 0), true), ((4, 0), true), ((5, 0), true), ((6, 0), true)] hm htt Try.func137 rfl (by kernel_rfl) rfl rfl ?_
  repeat' ((conv => whnf); first
    | (refine au64M fun r hr => ?_)
    | (refine ai64M fun r hr => ?_)
    | (refine bF_dec (fun _ => ?_) (fun _ => ?_) <;> try (exfalso; omega))
    | (refine bF_eq (fun _ => ?_) (fun _ => ?_) <;> try (exfalso; omega))
    | (refine bF_ne (fun _ => ?_) (fun _ => ?_) <;> try (exfalso; omega))
    | (refine a64 (by omega) ?_)
    | (refine ix_at rfl (by omega) ?_)
    | (refine ⟨⟨rfl, by omega, by omega⟩, ?_⟩)
    | (refine map_at (by omega) ?_)
    | (refine alen ?_)
    | (refine amin ?_)
    | (refine amax ?_)
    | (refine ⟨⟨rfl, rfl, by simp [V.ments, mentsL]⟩, ?_⟩)
    | (refine map_at0 (by omega) ?_)
    | (refine set_at rfl ?_)
    | (refine map_atI (by omega) ?_)
    | (refine map_atI0 (by omega) ?_)
    | (refine set_atI rfl ?_)
    | (refine ⟨⟨by decide, rfl, by omega, by omega, by omega, by dsimp only; omega⟩, ?_⟩)
    | (refine arem (by omega) ?_)
    | (refine aquo (by omega) (by omega) ?_)
    | (refine au8 ?_)
    | (refine au64 (by omega) ?_)
    | (refine anat ?_)
    | (refine szOk rfl ?_)
    | (refine dvOk rfl (by omega) ?_)
    | (refine nzOk (by decide) ?_)
    | (refine lgOk (by kernel_rfl) ?_)
    | (refine kpOk (by kernel_rfl) ?_)
    | fail)
  all_goals conv => whnf
  all_goals exact hK' _ _ (by rw [whi_add]; unfold s64; split <;> omega) (by rw [wlo_add]; split <;> omega)
theorem WideNegS.ac (a : Int) {K : V → List Obj → List Obj → Prop} (hK : K (wv (-a)) [] []) : AC Try.prog 213 [wv a] [] K := by
  have ha := whi_b a
  have la := wlo_b a
  have e : ∀ x y, x = whi (-1 - a) → y = wlo (-1 - a) → ∀ {K : V → List Obj → List Obj → Prop}, K (wv (-a)) [] [] → AC Try.prog 137 [.agg [iv x, uv y], .agg [iv 0, uv 1]] [] K := by
    rintro _ _ rfl rfl K hK
    have := WideAddS.ac (-1 - a) 1 (K := K) (by rw [show -1 - a + 1 = -a by omega]; exact hK)
    exact this
  refine ac_body (ann []) [((997, 0), true), ((3, 0), true), ((4, 0), true)] hm htt Try.func213 rfl (by kernel_rfl) rfl rfl ?_
  repeat' ((conv => whnf); first
    | (refine e _ _ (by rw [whi_neg]) (by rw [wlo_neg]) ?_)
    | (refine bF_dec (fun _ => ?_) (fun _ => ?_) <;> try (exfalso; omega))
    | (refine bF_eq (fun _ => ?_) (fun _ => ?_) <;> try (exfalso; omega))
    | (refine bF_ne (fun _ => ?_) (fun _ => ?_) <;> try (exfalso; omega))
    | (refine a64 (by omega) ?_)
    | (refine ix_at rfl (by omega) ?_)
    | (refine ⟨⟨rfl, by omega, by omega⟩, ?_⟩)
    | (refine map_at (by omega) ?_)
    | (refine alen ?_)
    | (refine amin ?_)
    | (refine amax ?_)
    | (refine ⟨⟨rfl, rfl, by simp [V.ments, mentsL]⟩, ?_⟩)
    | (refine map_at0 (by omega) ?_)
    | (refine set_at rfl ?_)
    | (refine map_atI (by omega) ?_)
    | (refine map_atI0 (by omega) ?_)
    | (refine set_atI rfl ?_)
    | (refine ⟨⟨by decide, rfl, by omega, by omega, by omega, by dsimp only; omega⟩, ?_⟩)
    | (refine arem (by omega) ?_)
    | (refine aquo (by omega) (by omega) ?_)
    | (refine au8 ?_)
    | (refine au64 (by omega) ?_)
    | (refine anat ?_)
    | (refine szOk rfl ?_)
    | (refine dvOk rfl (by omega) ?_)
    | (refine nzOk (by decide) ?_)
    | (refine lgOk (by kernel_rfl) ?_)
    | (refine kpOk (by kernel_rfl) ?_)
    | fail)
  all_goals conv => whnf
  exact hK
def wcmp (a b : Int) : Int := if a < b then -1 else if a = b then 0 else 1
theorem wcmp_b (a b : Int) : wcmp a b = -1 ∨ wcmp a b = 0 ∨ wcmp a b = 1 := by unfold wcmp; split <;> (try split) <;> simp
theorem WideCmpS.ac (a b : Int) (ra : R127 a) (rb : R127 b) {K : V → List Obj → List Obj → Prop} (hK : K (iv (wcmp a b)) [] []) : AC Try.prog 209 [wv a, wv b] [] K := by
  have hK' : ∀ x, x = wcmp a b → K (iv x) [] [] := by rintro _ rfl; exact hK
  have h1 := wlt ra rb
  have h2 := weq ra rb
  refine ac_body (ann []) [((997, 0), true), ((4, 0), true), ((5, 0), true)] hm htt Try.func209 rfl (by kernel_rfl) rfl rfl ?_
  have h3 : a = b → whi a = whi b ∧ wlo a = wlo b := by rintro rfl; exact ⟨rfl, rfl⟩
  repeat' ((conv => whnf); first
    | (refine bF_dec (fun _ => ?_) (fun _ => ?_) <;> try (exfalso; omega))
    | (refine bF_eq (fun _ => ?_) (fun _ => ?_) <;> try (exfalso; omega))
    | (refine bF_ne (fun _ => ?_) (fun _ => ?_) <;> try (exfalso; omega))
    | (refine a64 (by omega) ?_)
    | (refine ix_at rfl (by omega) ?_)
    | (refine ⟨⟨rfl, by omega, by omega⟩, ?_⟩)
    | (refine map_at (by omega) ?_)
    | (refine alen ?_)
    | (refine amin ?_)
    | (refine amax ?_)
    | (refine ⟨⟨rfl, rfl, by simp [V.ments, mentsL]⟩, ?_⟩)
    | (refine map_at0 (by omega) ?_)
    | (refine set_at rfl ?_)
    | (refine map_atI (by omega) ?_)
    | (refine map_atI0 (by omega) ?_)
    | (refine set_atI rfl ?_)
    | (refine ⟨⟨by decide, rfl, by omega, by omega, by omega, by dsimp only; omega⟩, ?_⟩)
    | (refine arem (by omega) ?_)
    | (refine aquo (by omega) (by omega) ?_)
    | (refine au8 ?_)
    | (refine au64 (by omega) ?_)
    | (refine anat ?_)
    | (refine szOk rfl ?_)
    | (refine dvOk rfl (by omega) ?_)
    | (refine nzOk (by decide) ?_)
    | (refine lgOk (by kernel_rfl) ?_)
    | (refine kpOk (by kernel_rfl) ?_)
    | fail)
  all_goals conv => whnf
  all_goals exact hK' _ (by unfold wcmp; (repeat' split) <;> omega)
theorem WideIntS.ac (a : Int) (ra : R127 a) {K : V → List Obj → List Obj → Prop} (hT : I64 a → K (.tup [iv a, bv true]) [] []) (hF : ¬ I64 a → K (.tup [iv 0, bv false]) [] []) : AC Try.prog 143 [wv a] [] K := by
  have ha := whi_b a
  have la := wlo_b a
  refine ac_body (ann []) [((997, 0), true), ((3, 0), true)] hm htt Try.func143 rfl (by kernel_rfl) rfl rfl ?_
  repeat' ((conv => whnf); first
    | (refine ai64M fun r hr => ?_)
    | (refine WideOfS.ac _ (by unfold I64; omega) ?_)
    | (refine bF_dec (fun _ => ?_) (fun _ => ?_) <;> try (exfalso; omega))
    | (refine bF_eq (fun _ => ?_) (fun _ => ?_) <;> try (exfalso; omega))
    | (refine bF_ne (fun _ => ?_) (fun _ => ?_) <;> try (exfalso; omega))
    | (refine a64 (by omega) ?_)
    | (refine ix_at rfl (by omega) ?_)
    | (refine ⟨⟨rfl, by omega, by omega⟩, ?_⟩)
    | (refine map_at (by omega) ?_)
    | (refine alen ?_)
    | (refine amin ?_)
    | (refine amax ?_)
    | (refine ⟨⟨rfl, rfl, by simp [V.ments, mentsL]⟩, ?_⟩)
    | (refine map_at0 (by omega) ?_)
    | (refine set_at rfl ?_)
    | (refine map_atI (by omega) ?_)
    | (refine map_atI0 (by omega) ?_)
    | (refine set_atI rfl ?_)
    | (refine ⟨⟨by decide, rfl, by omega, by omega, by omega, by dsimp only; omega⟩, ?_⟩)
    | (refine arem (by omega) ?_)
    | (refine aquo (by omega) (by omega) ?_)
    | (refine au8 ?_)
    | (refine au64 (by omega) ?_)
    | (refine anat ?_)
    | (refine szOk rfl ?_)
    | (refine dvOk rfl (by omega) ?_)
    | (refine nzOk (by decide) ?_)
    | (refine lgOk (by kernel_rfl) ?_)
    | (refine kpOk (by kernel_rfl) ?_)
    | fail)
  all_goals conv => whnf
  generalize hb : (whi r == whi a && (wlo r == wlo a && true)) = b
  cases b
  · repeat' ((conv => whnf); first
      | (refine bF_dec (fun _ => ?_) (fun _ => ?_) <;> try (exfalso; omega))
      | (refine bF_eq (fun _ => ?_) (fun _ => ?_) <;> try (exfalso; omega))
      | (refine bF_ne (fun _ => ?_) (fun _ => ?_) <;> try (exfalso; omega))
      | (refine a64 (by omega) ?_)
      | (refine ix_at rfl (by omega) ?_)
      | (refine ⟨⟨rfl, by omega, by omega⟩, ?_⟩)
      | (refine map_at (by omega) ?_)
      | (refine alen ?_)
      | (refine amin ?_)
      | (refine amax ?_)
      | (refine ⟨⟨rfl, rfl, by simp [V.ments, mentsL]⟩, ?_⟩)
      | (refine map_at0 (by omega) ?_)
      | (refine set_at rfl ?_)
      | (refine map_atI (by omega) ?_)
      | (refine map_atI0 (by omega) ?_)
      | (refine set_atI rfl ?_)
      | (refine ⟨⟨by decide, rfl, by omega, by omega, by omega, by dsimp only; omega⟩, ?_⟩)
      | (refine arem (by omega) ?_)
      | (refine aquo (by omega) (by omega) ?_)
      | (refine au8 ?_)
      | (refine au64 (by omega) ?_)
      | (refine anat ?_)
      | (refine szOk rfl ?_)
      | (refine dvOk rfl (by omega) ?_)
      | (refine nzOk (by decide) ?_)
      | (refine lgOk (by kernel_rfl) ?_)
      | (refine kpOk (by kernel_rfl) ?_)
      | fail)
    all_goals conv => whnf
    refine hF fun h => ?_
    have : r = a := by unfold I64 at h; unfold wlo at hr; omega
    rw [this] at hb
    simp at hb
  · repeat' ((conv => whnf); first
      | (refine bF_dec (fun _ => ?_) (fun _ => ?_) <;> try (exfalso; omega))
      | (refine bF_eq (fun _ => ?_) (fun _ => ?_) <;> try (exfalso; omega))
      | (refine bF_ne (fun _ => ?_) (fun _ => ?_) <;> try (exfalso; omega))
      | (refine a64 (by omega) ?_)
      | (refine ix_at rfl (by omega) ?_)
      | (refine ⟨⟨rfl, by omega, by omega⟩, ?_⟩)
      | (refine map_at (by omega) ?_)
      | (refine alen ?_)
      | (refine amin ?_)
      | (refine amax ?_)
      | (refine ⟨⟨rfl, rfl, by simp [V.ments, mentsL]⟩, ?_⟩)
      | (refine map_at0 (by omega) ?_)
      | (refine set_at rfl ?_)
      | (refine map_atI (by omega) ?_)
      | (refine map_atI0 (by omega) ?_)
      | (refine set_atI rfl ?_)
      | (refine ⟨⟨by decide, rfl, by omega, by omega, by omega, by dsimp only; omega⟩, ?_⟩)
      | (refine arem (by omega) ?_)
      | (refine aquo (by omega) (by omega) ?_)
      | (refine au8 ?_)
      | (refine au64 (by omega) ?_)
      | (refine anat ?_)
      | (refine szOk rfl ?_)
      | (refine dvOk rfl (by omega) ?_)
      | (refine nzOk (by decide) ?_)
      | (refine lgOk (by kernel_rfl) ?_)
      | (refine kpOk (by kernel_rfl) ?_)
      | fail)
    all_goals conv => whnf
    have hb' : whi r = whi a ∧ wlo r = wlo a := by simpa using hb
    have : r = a := weq (R127_i64 (by omega)) ra hb'.1 hb'.2
    have hT' : ∀ x, x = a → K (.tup [iv x, bv true]) [] [] := by rintro _ rfl; exact hT (by unfold I64; omega)
    exact hT' _ this
end Go.Eng.T
