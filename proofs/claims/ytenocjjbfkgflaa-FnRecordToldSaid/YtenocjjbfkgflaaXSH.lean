import Derived.Test.YtenocjjbfkgflaaXSG
import Derived.Test.YtenocjjbfkgflaaXEB
import Derived.Test.YtenocjjbfkgflaaXPA
import Derived.Test.YtenocjjbfkgflaaXPB
namespace Go.Eng.T
open Go.Proofs Go.Eng Go.Eng.S
set_option maxRecDepth 100000
set_option maxHeartbeats 0

theorem win.ac (D : List Int) (k p s : Int) (hc : CurI D k p s) (hk : k ≤ 800000) {K : V → List Obj → List Obj → Prop} (hK : ∀ a b c p' s', CurI D (k + 6) p' s' → (1 ≤ a ∧ a ≤ 3) → (1 ≤ b ∧ b ≤ 100) → (0 ≤ c ∧ c ≤ 100) → K (.agg [iv a, iv b, iv c]) [cur D p' s'] []) : AC Try.prog 114 [.lp (0,0) 3 0 0] [cur D p s] K := by
  refine ac_body (ann []) [((997, 0), true), ((0, 0), true), ((4, 0), true), ((9, 0), false), ((5, 0), true)] hm htt Try.func114 rfl (by kernel_rfl) rfl rfl ?_
  repeat' ((conv => whnf); first
    | (refine cpick.ac D _ _ _ _ ‹_› (by omega) fun r p' s' hc' _ _ => ?_)
    | (refine once.ac D _ _ _ _ ‹_› (by omega) (by omega) fun b p' s' hc' => ?_; cases b)
    | (refine raw.ac D _ _ _ ‹_› (by omega) fun r p' s' hc' _ _ => ?_)
    | (refine pickI2 rfl (by omega) fun x _ => ?_)
    | (refine pickI3 rfl (by omega) fun x _ => ?_)
    | (refine pickI4 rfl (by omega) fun x _ => ?_)
    | (refine pickI5 rfl (by omega) fun x _ => ?_)
    | (refine bF_dec (fun _ => ?_) (fun _ => ?_) <;> try (exfalso; omega))
    | (refine bF_eq (fun _ => ?_) (fun _ => ?_) <;> try (exfalso; omega))
    | (refine bF_ne (fun _ => ?_) (fun _ => ?_) <;> try (exfalso; omega))
    | (refine a64 (by omega) ?_)
    | (refine ix_at rfl (by omega) ?_)
    | (refine ⟨⟨rfl, by omega, by omega⟩, ?_⟩)
    | (refine map_at (by omega) ?_)
    | (refine alen ?_)
    | (refine amin ?_)
    | (refine amax ?_)
    | (refine ⟨⟨rfl, rfl, by simp [V.ments]⟩, ?_⟩)
    | (refine map_at0 (by omega) ?_)
    | (refine set_at rfl ?_)
    | (refine map_atI (by omega) ?_)
    | (refine map_atI0 (by omega) ?_)
    | (refine set_atI rfl ?_)
    | (refine ⟨⟨by decide, rfl, by omega, by omega, by omega, by dsimp only; omega⟩, ?_⟩)
    | (refine arem (by omega) ?_)
    | (refine aquo (by omega) (by omega) ?_)
    | (refine au8 ?_)
    | (refine au64 (by omega) ?_)
    | (refine anat ?_)
    | (refine szOk rfl ?_)
    | (refine dvOk rfl (by omega) ?_)
    | (refine nzOk (by decide) ?_)
    | (refine lgOk (by kernel_rfl) ?_)
    | (refine kpOk (by kernel_rfl) ?_)
    | fail)
  all_goals conv => whnf
  all_goals exact hK _ _ _ _ _ (hc'.up (by omega)) (by omega) (by omega) (by omega)
theorem elem.ac (D : List Int) (k p s : Int) (hc : CurI D k p s) (hk : k ≤ 800000) {K : V → List Obj → List Obj → Prop} (hK : ∀ a b c d p' s', CurI D (k + 10) p' s' → (0 ≤ a ∧ a < 3) → (0 ≤ b ∧ b < 4) → I64 c → (0 ≤ d ∧ d < 40) → K (.agg [iv a, iv b, iv c, iv d]) [cur D p' s'] []) : AC Try.prog 110 [.lp (0,0) 3 0 0] [cur D p s] K := by
  refine ac_body (ann []) [((997, 0), true), ((0, 0), true), ((4, 0), true), ((17, 0), false)] hm htt Try.func110 rfl (by kernel_rfl) rfl rfl ?_
  repeat' ((conv => whnf); first
    | (refine cpick.ac D _ _ _ _ ‹_› (by omega) fun r p' s' hc' _ _ => ?_)
    | (refine once.ac D _ _ _ _ ‹_› (by omega) (by omega) fun b p' s' hc' => ?_; cases b)
    | (refine raw.ac D _ _ _ ‹_› (by omega) fun r p' s' hc' _ _ => ?_)
    | (refine pickI2 rfl (by omega) fun x _ => ?_)
    | (refine pickI3 rfl (by omega) fun x _ => ?_)
    | (refine pickI4 rfl (by omega) fun x _ => ?_)
    | (refine pickI5 rfl (by omega) fun x _ => ?_)
    | (refine bF_dec (fun _ => ?_) (fun _ => ?_) <;> try (exfalso; omega))
    | (refine bF_eq (fun _ => ?_) (fun _ => ?_) <;> try (exfalso; omega))
    | (refine bF_ne (fun _ => ?_) (fun _ => ?_) <;> try (exfalso; omega))
    | (refine a64 (by omega) ?_)
    | (refine ix_at rfl (by omega) ?_)
    | (refine ⟨⟨rfl, by omega, by omega⟩, ?_⟩)
    | (refine map_at (by omega) ?_)
    | (refine alen ?_)
    | (refine amin ?_)
    | (refine amax ?_)
    | (refine ⟨⟨rfl, rfl, by simp [V.ments]⟩, ?_⟩)
    | (refine map_at0 (by omega) ?_)
    | (refine set_at rfl ?_)
    | (refine map_atI (by omega) ?_)
    | (refine map_atI0 (by omega) ?_)
    | (refine set_atI rfl ?_)
    | (refine ⟨⟨by decide, rfl, by omega, by omega, by omega, by dsimp only; omega⟩, ?_⟩)
    | (refine arem (by omega) ?_)
    | (refine aquo (by omega) (by omega) ?_)
    | (refine au8 ?_)
    | (refine au64 (by omega) ?_)
    | (refine anat ?_)
    | (refine szOk rfl ?_)
    | (refine dvOk rfl (by omega) ?_)
    | (refine nzOk (by decide) ?_)
    | (refine lgOk (by kernel_rfl) ?_)
    | (refine kpOk (by kernel_rfl) ?_)
    | fail)
  all_goals conv => whnf
  all_goals exact hK _ _ _ _ _ _ (hc'.up (by omega)) (by omega) (by omega) (by unfold I64; omega) (by omega)
theorem time.ac (D : List Int) (k p s : Int) (hc : CurI D k p s) (hk : k ≤ 800000) {K : V → List Obj → List Obj → Prop} (hK : ∀ a p' s', CurI D (k + 10) p' s' → I64 a → K (iv a) [cur D p' s'] []) : AC Try.prog 111 [.lp (0,0) 3 0 0] [cur D p s] K := by
  refine ac_body (ann []) [((997, 0), true), ((0, 0), true), ((11, 0), false)] hm htt Try.func111 rfl (by kernel_rfl) rfl rfl ?_
  repeat' ((conv => whnf); first
    | (refine cpick.ac D _ _ _ _ ‹_› (by omega) fun r p' s' hc' _ _ => ?_)
    | (refine once.ac D _ _ _ _ ‹_› (by omega) (by omega) fun b p' s' hc' => ?_; cases b)
    | (refine raw.ac D _ _ _ ‹_› (by omega) fun r p' s' hc' _ _ => ?_)
    | (refine pickI2 rfl (by omega) fun x _ => ?_)
    | (refine pickI3 rfl (by omega) fun x _ => ?_)
    | (refine pickI4 rfl (by omega) fun x _ => ?_)
    | (refine pickI5 rfl (by omega) fun x _ => ?_)
    | (refine bF_dec (fun _ => ?_) (fun _ => ?_) <;> try (exfalso; omega))
    | (refine bF_eq (fun _ => ?_) (fun _ => ?_) <;> try (exfalso; omega))
    | (refine bF_ne (fun _ => ?_) (fun _ => ?_) <;> try (exfalso; omega))
    | (refine a64 (by omega) ?_)
    | (refine ix_at rfl (by omega) ?_)
    | (refine ⟨⟨rfl, by omega, by omega⟩, ?_⟩)
    | (refine map_at (by omega) ?_)
    | (refine alen ?_)
    | (refine amin ?_)
    | (refine amax ?_)
    | (refine ⟨⟨rfl, rfl, by simp [V.ments]⟩, ?_⟩)
    | (refine map_at0 (by omega) ?_)
    | (refine set_at rfl ?_)
    | (refine map_atI (by omega) ?_)
    | (refine map_atI0 (by omega) ?_)
    | (refine set_atI rfl ?_)
    | (refine ⟨⟨by decide, rfl, by omega, by omega, by omega, by dsimp only; omega⟩, ?_⟩)
    | (refine arem (by omega) ?_)
    | (refine aquo (by omega) (by omega) ?_)
    | (refine au8 ?_)
    | (refine au64 (by omega) ?_)
    | (refine anat ?_)
    | (refine szOk rfl ?_)
    | (refine dvOk rfl (by omega) ?_)
    | (refine nzOk (by decide) ?_)
    | (refine lgOk (by kernel_rfl) ?_)
    | (refine kpOk (by kernel_rfl) ?_)
    | fail)
  all_goals conv => whnf
  all_goals exact hK _ _ _ (hc'.up (by omega)) (by unfold I64; omega)
theorem l03Takes.ac (o : Int) {K : V → List Obj → List Obj → Prop} (hK : ∀ r, 0 ≤ r → r ≤ 2 → K (iv r) [] []) : AC Try.prog 123 [iv o] [] K := by
  refine ac_body (ann []) [((997, 0), true)] hm htt Try.func123 rfl (by kernel_rfl) rfl rfl ?_
  repeat' ((conv => whnf); first
    | (refine bF_dec (fun _ => ?_) (fun _ => ?_) <;> try (exfalso; omega))
    | (refine bF_eq (fun _ => ?_) (fun _ => ?_) <;> try (exfalso; omega))
    | (refine bF_ne (fun _ => ?_) (fun _ => ?_) <;> try (exfalso; omega))
    | (refine a64 (by omega) ?_)
    | (refine ix_at rfl (by omega) ?_)
    | (refine ⟨⟨rfl, by omega, by omega⟩, ?_⟩)
    | (refine map_at (by omega) ?_)
    | (refine alen ?_)
    | (refine amin ?_)
    | (refine amax ?_)
    | (refine ⟨⟨rfl, rfl, by simp [V.ments]⟩, ?_⟩)
    | (refine map_at0 (by omega) ?_)
    | (refine set_at rfl ?_)
    | (refine map_atI (by omega) ?_)
    | (refine map_atI0 (by omega) ?_)
    | (refine set_atI rfl ?_)
    | (refine ⟨⟨by decide, rfl, by omega, by omega, by omega, by dsimp only; omega⟩, ?_⟩)
    | (refine arem (by omega) ?_)
    | (refine aquo (by omega) (by omega) ?_)
    | (refine au8 ?_)
    | (refine au64 (by omega) ?_)
    | (refine anat ?_)
    | (refine szOk rfl ?_)
    | (refine dvOk rfl (by omega) ?_)
    | (refine nzOk (by decide) ?_)
    | (refine lgOk (by kernel_rfl) ?_)
    | (refine kpOk (by kernel_rfl) ?_)
    | fail)
  all_goals conv => whnf
  all_goals exact hK _ (by omega) (by omega)
theorem tok.ac (D : List Int) (k p s n : Int) (hc : CurI D k p s) (hk : k ≤ 800000) {K : V → List Obj → List Obj → Prop} (hK : ∀ a b p' s', CurI D (k + 7) p' s' → (0 ≤ a ∧ a ≤ 11) → I64 b → K (.agg [iv a, iv b]) [cur D p' s'] []) : AC Try.prog 122 [.lp (0,0) 3 0 0, iv n] [cur D p s] K := by
  refine ac_body (ann []) [((997, 0), true), ((0, 0), true), ((6, 0), true), ((31, 0), false)] hm htt Try.func122 rfl (by kernel_rfl) rfl rfl ?_
  repeat' ((conv => whnf); first
    | (refine cpick.ac D _ _ _ _ ‹_› (by omega) fun r p' s' hc' _ _ => ?_)
    | (refine once.ac D _ _ _ _ ‹_› (by omega) (by omega) fun b p' s' hc' => ?_; cases b)
    | (refine raw.ac D _ _ _ ‹_› (by omega) fun r p' s' hc' _ _ => ?_)
    | (refine pickI2 rfl (by omega) fun x _ => ?_)
    | (refine pickI3 rfl (by omega) fun x _ => ?_)
    | (refine pickI4 rfl (by omega) fun x _ => ?_)
    | (refine pickI5 rfl (by omega) fun x _ => ?_)
    | (refine bF_dec (fun _ => ?_) (fun _ => ?_) <;> try (exfalso; omega))
    | (refine bF_eq (fun _ => ?_) (fun _ => ?_) <;> try (exfalso; omega))
    | (refine bF_ne (fun _ => ?_) (fun _ => ?_) <;> try (exfalso; omega))
    | (refine a64 (by omega) ?_)
    | (refine ix_at rfl (by omega) ?_)
    | (refine ⟨⟨rfl, by omega, by omega⟩, ?_⟩)
    | (refine map_at (by omega) ?_)
    | (refine alen ?_)
    | (refine amin ?_)
    | (refine amax ?_)
    | (refine ⟨⟨rfl, rfl, by simp [V.ments]⟩, ?_⟩)
    | (refine map_at0 (by omega) ?_)
    | (refine set_at rfl ?_)
    | (refine map_atI (by omega) ?_)
    | (refine map_atI0 (by omega) ?_)
    | (refine set_atI rfl ?_)
    | (refine ⟨⟨by decide, rfl, by omega, by omega, by omega, by dsimp only; omega⟩, ?_⟩)
    | (refine arem (by omega) ?_)
    | (refine aquo (by omega) (by omega) ?_)
    | (refine au8 ?_)
    | (refine au64 (by omega) ?_)
    | (refine anat ?_)
    | (refine szOk rfl ?_)
    | (refine dvOk rfl (by omega) ?_)
    | (refine nzOk (by decide) ?_)
    | (refine lgOk (by kernel_rfl) ?_)
    | (refine kpOk (by kernel_rfl) ?_)
    | fail)
  all_goals conv => whnf
  all_goals exact hK _ _ _ _ (hc'.up (by omega)) (by omega) (by unfold I64; omega)
theorem l04Pow.ac (n : Int) (h : 0 ≤ n ∧ n ≤ 4) {K : V → List Obj → List Obj → Prop} (hK : ∀ r, 1 ≤ r → r ≤ 16 → K (iv r) [] []) : AC Try.prog 112 [iv n] [] K := by
  refine ac_body (ann [(2, [0, 3], [])]) [((997, 0), true)] hm htt Try.func112 rfl (by kernel_rfl) rfl rfl ?_
  repeat' ((conv => whnf); first
    | (refine bF_dec (fun _ => ?_) (fun _ => ?_) <;> try (exfalso; omega))
    | (refine bF_eq (fun _ => ?_) (fun _ => ?_) <;> try (exfalso; omega))
    | (refine bF_ne (fun _ => ?_) (fun _ => ?_) <;> try (exfalso; omega))
    | (refine a64 (by omega) ?_)
    | (refine ix_at rfl (by omega) ?_)
    | (refine ⟨⟨rfl, by omega, by omega⟩, ?_⟩)
    | (refine map_at (by omega) ?_)
    | (refine alen ?_)
    | (refine amin ?_)
    | (refine amax ?_)
    | (refine ⟨⟨rfl, rfl, by simp [V.ments]⟩, ?_⟩)
    | (refine map_at0 (by omega) ?_)
    | (refine set_at rfl ?_)
    | (refine map_atI (by omega) ?_)
    | (refine map_atI0 (by omega) ?_)
    | (refine set_atI rfl ?_)
    | (refine ⟨⟨by decide, rfl, by omega, by omega, by omega, by dsimp only; omega⟩, ?_⟩)
    | (refine arem (by omega) ?_)
    | (refine aquo (by omega) (by omega) ?_)
    | (refine au8 ?_)
    | (refine au64 (by omega) ?_)
    | (refine anat ?_)
    | (refine szOk rfl ?_)
    | (refine dvOk rfl (by omega) ?_)
    | (refine nzOk (by decide) ?_)
    | (refine lgOk (by kernel_rfl) ?_)
    | (refine kpOk (by kernel_rfl) ?_)
    | fail)
  all_goals conv => whnf
  refine cwF_loop (fun m st => ∃ (z x : Int), (m = z.toNat ∧ 0 ≤ z ∧ z ≤ 4 ∧ 1 ≤ x ∧ (z = 4 → x = 1) ∧ (z = 3 → x ≤ 2) ∧ (z = 2 → x ≤ 4) ∧ (z = 1 → x ≤ 8) ∧ (z = 0 → x ≤ 16)) ∧
    st = ⟨[iv z, .un, .un, iv x] ++ List.replicate 7 .un, mkOb []⟩) n.toNat (by kernel_rfl) ⟨n, 1, ⟨by omega, by omega, by omega, by omega, by omega, by omega, by omega, by omega, by omega⟩, rfl⟩ ?_
  rintro m st ⟨z, x, ⟨rfl, z0, z1, x1, xa, xb, xc, xd, xe⟩, rfl⟩
  repeat' ((conv => whnf); first
    | (refine bF_dec (fun _ => ?_) (fun _ => ?_) <;> try (exfalso; omega))
    | (refine bF_eq (fun _ => ?_) (fun _ => ?_) <;> try (exfalso; omega))
    | (refine bF_ne (fun _ => ?_) (fun _ => ?_) <;> try (exfalso; omega))
    | (refine a64 (by omega) ?_)
    | (refine ix_at rfl (by omega) ?_)
    | (refine ⟨⟨rfl, by omega, by omega⟩, ?_⟩)
    | (refine map_at (by omega) ?_)
    | (refine alen ?_)
    | (refine amin ?_)
    | (refine amax ?_)
    | (refine ⟨⟨rfl, rfl, by simp [V.ments]⟩, ?_⟩)
    | (refine map_at0 (by omega) ?_)
    | (refine set_at rfl ?_)
    | (refine map_atI (by omega) ?_)
    | (refine map_atI0 (by omega) ?_)
    | (refine set_atI rfl ?_)
    | (refine ⟨⟨by decide, rfl, by omega, by omega, by omega, by dsimp only; omega⟩, ?_⟩)
    | (refine arem (by omega) ?_)
    | (refine aquo (by omega) (by omega) ?_)
    | (refine au8 ?_)
    | (refine au64 (by omega) ?_)
    | (refine anat ?_)
    | (refine szOk rfl ?_)
    | (refine dvOk rfl (by omega) ?_)
    | (refine nzOk (by decide) ?_)
    | (refine lgOk (by kernel_rfl) ?_)
    | (refine kpOk (by kernel_rfl) ?_)
    | fail)
  all_goals conv => whnf
  · exact ⟨(z - 1).toNat, by omega, _, _, ⟨rfl, by omega, by omega, by omega, by omega, by omega, by omega, by omega, by omega⟩, rfl⟩
  · exact hK _ (by omega) (by omega)
abbrev encT (t : Int × Int) : V := .agg [iv t.1, iv t.2]
def TokI (t : Int × Int) : Prop := (0 ≤ t.1 ∧ t.1 ≤ 11) ∧ I64 t.2
theorem tok_snoc {l : List (Int × Int)} {a b : Int} (h : ∀ t ∈ l, TokI t) (ha : 0 ≤ a ∧ a ≤ 11) (hb : I64 b) : ∀ t ∈ l ++ [(a, b)], TokI t := fun t ht => by
  rcases List.mem_append.1 ht with ht | ht
  · exact h t ht
  · rw [List.mem_singleton.1 ht]; exact ⟨ha, hb⟩
theorem expr.ac (D : List Int) (k p s : Int) (hc : CurI D k p s) (hk : k ≤ 700000) {K : V → List Obj → List Obj → Prop} (hK : ∀ (x : List (Int × Int)) p' s', CurI D (k + 75) p' s' → x.length ≤ 16 → (∀ t ∈ x, TokI t) → K (.is 2 (x.map encT)) [cur D p' s'] []) : AC Try.prog 115 [.lp (0,0) 3 0 0] [cur D p s] K := by
  refine AC.frz ?_
  refine ac_body (annW [] [(11, [0, 3, 4], [(0, 0), (28, 1)]), (4, [0, 3, 4, 5], [(0, 0), (28, 1)])] [(4, (28, 1), [28, 9]), (11, (28, 1), [45])]) [((997, 0), true), ((0, 0), true), ((9, 0), false), ((8, 0), true), ((27, 0), true), ((28, 0), false), ((28, 1), false), ((33, 0), true), ((34, 0), false), ((44, 0), true), ((45, 0), false)] hm htt Try.func115 rfl (by kernel_rfl) rfl rfl ?_
  repeat' ((conv => whnf); first
    | (refine cpick.ac D _ _ _ _ ‹_› (by omega) fun r p' s' hc' _ _ => ?_)
    | (refine once.ac D _ _ _ _ ‹_› (by omega) (by omega) fun b p' s' hc' => ?_; cases b)
    | (refine raw.ac D _ _ _ ‹_› (by omega) fun r p' s' hc' _ _ => ?_)
    | (refine pickI2 rfl (by omega) fun x _ => ?_)
    | (refine pickI3 rfl (by omega) fun x _ => ?_)
    | (refine pickI4 rfl (by omega) fun x _ => ?_)
    | (refine pickI5 rfl (by omega) fun x _ => ?_)
    | (refine bF_dec (fun _ => ?_) (fun _ => ?_) <;> try (exfalso; omega))
    | (refine bF_eq (fun _ => ?_) (fun _ => ?_) <;> try (exfalso; omega))
    | (refine bF_ne (fun _ => ?_) (fun _ => ?_) <;> try (exfalso; omega))
    | (refine a64 (by omega) ?_)
    | (refine ix_at rfl (by omega) ?_)
    | (refine ⟨⟨rfl, by omega, by omega⟩, ?_⟩)
    | (refine map_at (by omega) ?_)
    | (refine alen ?_)
    | (refine amin ?_)
    | (refine amax ?_)
    | (refine ⟨⟨rfl, rfl, by simp [V.ments]⟩, ?_⟩)
    | (refine map_at0 (by omega) ?_)
    | (refine set_at rfl ?_)
    | (refine map_atI (by omega) ?_)
    | (refine map_atI0 (by omega) ?_)
    | (refine set_atI rfl ?_)
    | (refine ⟨⟨by decide, rfl, by omega, by omega, by omega, by dsimp only; omega⟩, ?_⟩)
    | (refine arem (by omega) ?_)
    | (refine aquo (by omega) (by omega) ?_)
    | (refine au8 ?_)
    | (refine au64 (by omega) ?_)
    | (refine anat ?_)
    | (refine szOk rfl ?_)
    | (refine dvOk rfl (by omega) ?_)
    | (refine nzOk (by decide) ?_)
    | (refine lgOk (by kernel_rfl) ?_)
    | (refine kpOk (by kernel_rfl) ?_)
    | fail)
  all_goals conv => whnf
  refine cwF_loop (fun m st => ∃ (n z p s : Int) (l : List (Int × Int)), (m = z.toNat ∧ 0 ≤ z ∧ z ≤ 7 ∧ (l.length : Int) ≤ 7 - z ∧ n ≤ 7 - z ∧ -14 + 2 * z ≤ n ∧ CurI D (k + 1 + 7 * (7 - z)) p s ∧ ∀ t ∈ l, TokI t) ∧
    st = ⟨[.lp (0, 0) 3 0 0, .un, .un, .ls (28, 1) 2 0 l.length, iv n, iv z] ++ List.replicate 39 .un, mkOb [((0, 0), some (cur D p s)), ((28, 1), some (.arr true 2 (l.map encT)))]⟩) r.toNat (by kernel_rfl) ⟨0, r, _, _, [], ⟨rfl, by omega, by omega, by simp; omega, by omega, by omega, hc'.up (by omega), fun _ h => nomatch h⟩, rfl⟩ ?_
  rintro m st ⟨n, z, p, s, l, ⟨rfl, z0, z1, l1, n1, n2, hcz, hl⟩, rfl⟩
  repeat' ((conv => whnf); first
    | (refine tok.ac D _ _ _ _ hcz (by omega) fun a b p' s' hc' ha hb => ?_)
    | (refine l03Takes.ac _ fun r _ _ => ?_)
    | (refine app1 (f := encT) (x := (_, _)) ⟨by decide, rfl, rfl, by simp, ⟨by simp; omega, by simp; omega⟩, rfl, by simp [mentsOne]⟩ rfl ?_)
    | (refine cpick.ac D _ _ _ _ ‹_› (by omega) fun r p' s' hc' _ _ => ?_)
    | (refine once.ac D _ _ _ _ ‹_› (by omega) (by omega) fun b p' s' hc' => ?_; cases b)
    | (refine raw.ac D _ _ _ ‹_› (by omega) fun r p' s' hc' _ _ => ?_)
    | (refine pickI2 rfl (by omega) fun x _ => ?_)
    | (refine pickI3 rfl (by omega) fun x _ => ?_)
    | (refine pickI4 rfl (by omega) fun x _ => ?_)
    | (refine pickI5 rfl (by omega) fun x _ => ?_)
    | (refine bF_dec (fun _ => ?_) (fun _ => ?_) <;> try (exfalso; omega))
    | (refine bF_eq (fun _ => ?_) (fun _ => ?_) <;> try (exfalso; omega))
    | (refine bF_ne (fun _ => ?_) (fun _ => ?_) <;> try (exfalso; omega))
    | (refine a64 (by omega) ?_)
    | (refine ix_at rfl (by omega) ?_)
    | (refine ⟨⟨rfl, by omega, by omega⟩, ?_⟩)
    | (refine map_at (by omega) ?_)
    | (refine alen ?_)
    | (refine amin ?_)
    | (refine amax ?_)
    | (refine ⟨⟨rfl, rfl, by simp [V.ments]⟩, ?_⟩)
    | (refine map_at0 (by omega) ?_)
    | (refine set_at rfl ?_)
    | (refine map_atI (by omega) ?_)
    | (refine map_atI0 (by omega) ?_)
    | (refine set_atI rfl ?_)
    | (refine ⟨⟨by decide, rfl, by omega, by omega, by omega, by dsimp only; omega⟩, ?_⟩)
    | (refine arem (by omega) ?_)
    | (refine aquo (by omega) (by omega) ?_)
    | (refine au8 ?_)
    | (refine au64 (by omega) ?_)
    | (refine anat ?_)
    | (refine szOk rfl ?_)
    | (refine dvOk rfl (by omega) ?_)
    | (refine nzOk (by decide) ?_)
    | (refine lgOk (by kernel_rfl) ?_)
    | (refine kpOk (by kernel_rfl) ?_)
    | fail)
  all_goals conv => whnf
  · exact ⟨(z - 1).toNat, by omega, _, _, _, _, l ++ [(_, _)], ⟨rfl, by omega, by omega, by simp; omega, by omega, by omega, ‹CurI D (k + 1 + 7 * (7 - z) + 7) _ _›.up (by omega), tok_snoc hl ha hb⟩, rfl⟩
  · exact frz1 cur_ments (hK (l ++ [(2, 0)]) p s (hcz.up (by omega)) (by simp; omega) (tok_snoc hl (by omega) (by unfold I64; omega)))
  refine cwF_loop (fun m st => ∃ (n p s : Int) (l : List (Int × Int)), (m = n.toNat ∧ n ≤ 7 ∧ -14 ≤ n ∧ (l.length : Int) + max 0 n ≤ 14 ∧ CurI D (k + 1 + 49 + (7 - n)) p s ∧ ∀ t ∈ l, TokI t) ∧
    st = ⟨[.lp (0, 0) 3 0 0, .un, .un, .ls (28, 1) 2 0 l.length, iv n] ++ List.replicate 40 .un, mkOb [((0, 0), some (cur D p s)), ((28, 1), some (.arr true 2 (l.map encT)))]⟩) n.toNat (by kernel_rfl) ⟨n, _, _, l, ⟨rfl, by omega, by omega, by omega, hcz.up (by omega), hl⟩, rfl⟩ ?_
  rintro m st ⟨n, p, s, l, ⟨rfl, n1, n0, l1, hcz, hl⟩, rfl⟩
  repeat' ((conv => whnf); first
    | (refine app1 (f := encT) (x := (_, _)) ⟨by decide, rfl, rfl, by simp, ⟨by simp; omega, by simp; omega⟩, rfl, by simp [mentsOne]⟩ rfl ?_)
    | (refine cpick.ac D _ _ _ _ ‹_› (by omega) fun r p' s' hc' _ _ => ?_)
    | (refine once.ac D _ _ _ _ ‹_› (by omega) (by omega) fun b p' s' hc' => ?_; cases b)
    | (refine raw.ac D _ _ _ ‹_› (by omega) fun r p' s' hc' _ _ => ?_)
    | (refine pickI2 rfl (by omega) fun x _ => ?_)
    | (refine pickI3 rfl (by omega) fun x _ => ?_)
    | (refine pickI4 rfl (by omega) fun x _ => ?_)
    | (refine pickI5 rfl (by omega) fun x _ => ?_)
    | (refine bF_dec (fun _ => ?_) (fun _ => ?_) <;> try (exfalso; omega))
    | (refine bF_eq (fun _ => ?_) (fun _ => ?_) <;> try (exfalso; omega))
    | (refine bF_ne (fun _ => ?_) (fun _ => ?_) <;> try (exfalso; omega))
    | (refine a64 (by omega) ?_)
    | (refine ix_at rfl (by omega) ?_)
    | (refine ⟨⟨rfl, by omega, by omega⟩, ?_⟩)
    | (refine map_at (by omega) ?_)
    | (refine alen ?_)
    | (refine amin ?_)
    | (refine amax ?_)
    | (refine ⟨⟨rfl, rfl, by simp [V.ments]⟩, ?_⟩)
    | (refine map_at0 (by omega) ?_)
    | (refine set_at rfl ?_)
    | (refine map_atI (by omega) ?_)
    | (refine map_atI0 (by omega) ?_)
    | (refine set_atI rfl ?_)
    | (refine ⟨⟨by decide, rfl, by omega, by omega, by omega, by dsimp only; omega⟩, ?_⟩)
    | (refine arem (by omega) ?_)
    | (refine aquo (by omega) (by omega) ?_)
    | (refine au8 ?_)
    | (refine au64 (by omega) ?_)
    | (refine anat ?_)
    | (refine szOk rfl ?_)
    | (refine dvOk rfl (by omega) ?_)
    | (refine nzOk (by decide) ?_)
    | (refine lgOk (by kernel_rfl) ?_)
    | (refine kpOk (by kernel_rfl) ?_)
    | fail)
  all_goals conv => whnf
  · exact ⟨(n - 1).toNat, by omega, _, _, _, l ++ [(_, _)], ⟨rfl, by omega, by omega, by simp; omega, hc'.up (by omega), tok_snoc hl (by omega) (by unfold I64; omega)⟩, rfl⟩
  · exact frz1 cur_ments (hK l p s (hcz.up (by omega)) (by omega) hl)
structure QueryR where
  f : List (Int × Int)
  m : List (Int × Int)
  wk : Int
  ws : Int
  wt : Int
  k : Int
  kk : Int
instance : Inhabited QueryR := ⟨⟨[], [], 0, 0, 0, 0, 0⟩⟩
abbrev encQ (q : QueryR) : V := .agg [.is 2 (q.f.map encT), .is 2 (q.m.map encT), iv q.wk, iv q.ws, iv q.wt, iv q.k, iv q.kk]
structure QueryI (q : QueryR) : Prop where
  f : q.f.length ≤ 16 ∧ ∀ t ∈ q.f, TokI t
  m : q.m.length ≤ 16 ∧ ∀ t ∈ q.m, TokI t
  wk : 1 ≤ q.wk ∧ q.wk ≤ 3
  ws : 1 ≤ q.ws ∧ q.ws ≤ 100
  wt : 0 ≤ q.wt ∧ q.wt ≤ 100
  k : 1 ≤ q.k ∧ q.k ≤ 6
  kk : 0 ≤ q.kk ∧ q.kk ≤ 4
theorem lendL_same {k : Key} {n : Nat} {es : List V} : ∀ {xs : List V}, (∀ x ∈ xs, x.ments = []) → LendL k n es xs xs
  | [], _ => .nil
  | x :: xs, h => .cons (.same (by rw [h x List.mem_cons_self]; exact List.not_mem_nil)) (lendL_same fun y hy => h y (List.mem_cons_of_mem _ hy))
abbrev rowT (l : List (Int × Int)) : Obj := .arr true 2 (l.map encT)
/-- One step of telling a new row as one that nobody changes any more, or none. -/
abbrev FrO (K : V → List Obj → List Obj → Prop) (v : V) (objs news : List Obj) : Prop := (∃ v' news' n es, news = news' ++ [.arr true n es] ∧ LendR (1, news'.length) n es v v' ∧ (∀ x ∈ objs ++ news', (1, news'.length) ∉ x.ments) ∧ K v' objs news') ∨ K v objs news
theorem frzLL {F M : List (Int × Int)} {r : List V} {objs : List Obj} {K : V → List Obj → List Obj → Prop} (hr : ∀ x ∈ r, x.ments = []) (hm : ∀ x ∈ objs, ∀ j, (1, j) ∉ x.ments) (k : K (.agg (.is 2 (F.map encT) :: .is 2 (M.map encT) :: r)) objs []) : FrO (FrO K) (.agg (.ls (1, 0) 2 0 F.length :: .ls (1, 1) 2 0 M.length :: r)) objs [rowT F, rowT M] :=
  .inl ⟨.agg (.ls (1, 0) 2 0 F.length :: .is 2 (M.map encT) :: r), [rowT F], 2, _, rfl, .agg (.cons (.same (by simp [V.ments])) (.cons (.all (by simp)) (lendL_same hr))), fun x hx => by
      rcases List.mem_append.1 hx with hx | hx
      · exact hm x hx _
      · rw [List.mem_singleton.1 hx]; simp [Obj.ments],
    .inl ⟨_, [], 2, _, rfl, .agg (.cons (.all (by simp)) (.cons (.same (by simp [V.ments])) (lendL_same hr))), fun x hx => hm x (by simpa using hx) _, k⟩⟩
theorem frzIL {F M : List (Int × Int)} {r : List V} {objs : List Obj} {K : V → List Obj → List Obj → Prop} (hr : ∀ x ∈ r, x.ments = []) (hm : ∀ x ∈ objs, ∀ j, (1, j) ∉ x.ments) (k : K (.agg (.is 2 (F.map encT) :: .is 2 (M.map encT) :: r)) objs []) : FrO (FrO K) (.agg (.is 2 (F.map encT) :: .ls (1, 0) 2 0 M.length :: r)) objs [rowT M] :=
  .inl ⟨_, [], 2, _, rfl, .agg (.cons (.same (by simp [V.ments])) (.cons (.all (by simp)) (lendL_same hr))), fun x hx => hm x (by simpa using hx) _, .inr k⟩
theorem frzLI {F M : List (Int × Int)} {r : List V} {objs : List Obj} {K : V → List Obj → List Obj → Prop} (hr : ∀ x ∈ r, x.ments = []) (hm : ∀ x ∈ objs, ∀ j, (1, j) ∉ x.ments) (k : K (.agg (.is 2 (F.map encT) :: .is 2 (M.map encT) :: r)) objs []) : FrO (FrO K) (.agg (.ls (1, 0) 2 0 F.length :: .is 2 (M.map encT) :: r)) objs [rowT F] :=
  .inl ⟨_, [], 2, _, rfl, .agg (.cons (.all (by simp)) (.cons (.same (by simp [V.ments])) (lendL_same hr))), fun x hx => hm x (by simpa using hx) _, .inr k⟩
theorem no_ments5 {a b c d e : Int} : ∀ x ∈ [iv a, iv b, iv c, iv d, iv e], x.ments = [] := by simp [V.ments]
theorem tok1 {a b : Int} (ha : 0 ≤ a ∧ a ≤ 11) (hb : I64 b) : ([(a, b)] : List (Int × Int)).length ≤ 16 ∧ ∀ t ∈ [(a, b)], TokI t := ⟨by simp, fun t ht => by rw [List.mem_singleton.1 ht]; exact ⟨ha, hb⟩⟩
theorem query.ac (D : List Int) (k p s : Int) (hc : CurI D k p s) (hk : k ≤ 600000) {K : V → List Obj → List Obj → Prop} (hK : ∀ q p' s', CurI D (k + 170) p' s' → QueryI q → K (encQ q) [cur D p' s'] []) : AC Try.prog 98 [.lp (0,0) 3 0 0] [cur D p s] K := by
  refine AC.frzO (AC.frzO ?_)
  refine ac_body (ann []) [((997, 0), true), ((0, 0), true), ((4, 0), true), ((7, 0), true), ((9, 0), true), ((5, 0), true)] hm htt Try.func98 rfl (by kernel_rfl) rfl rfl ?_
  repeat' ((conv => whnf); first
    | (refine win.ac D _ _ _ ‹_› (by omega) fun a b c p' s' hc' _ _ _ => ?_)
    | (refine expr.ac D _ _ _ ‹_› (by omega) fun x p' s' hc' _ _ => ?_)
    | (refine cpick.ac D _ _ _ _ ‹_› (by omega) fun r p' s' hc' _ _ => ?_)
    | (refine once.ac D _ _ _ _ ‹_› (by omega) (by omega) fun b p' s' hc' => ?_; cases b)
    | (refine raw.ac D _ _ _ ‹_› (by omega) fun r p' s' hc' _ _ => ?_)
    | (refine pickI2 rfl (by omega) fun x _ => ?_)
    | (refine pickI3 rfl (by omega) fun x _ => ?_)
    | (refine pickI4 rfl (by omega) fun x _ => ?_)
    | (refine pickI5 rfl (by omega) fun x _ => ?_)
    | (refine bF_dec (fun _ => ?_) (fun _ => ?_) <;> try (exfalso; omega))
    | (refine bF_eq (fun _ => ?_) (fun _ => ?_) <;> try (exfalso; omega))
    | (refine bF_ne (fun _ => ?_) (fun _ => ?_) <;> try (exfalso; omega))
    | (refine a64 (by omega) ?_)
    | (refine ix_at rfl (by omega) ?_)
    | (refine ⟨⟨rfl, by omega, by omega⟩, ?_⟩)
    | (refine map_at (by omega) ?_)
    | (refine alen ?_)
    | (refine amin ?_)
    | (refine amax ?_)
    | (refine ⟨⟨rfl, rfl, by simp [V.ments]⟩, ?_⟩)
    | (refine map_at0 (by omega) ?_)
    | (refine set_at rfl ?_)
    | (refine map_atI (by omega) ?_)
    | (refine map_atI0 (by omega) ?_)
    | (refine set_atI rfl ?_)
    | (refine ⟨⟨by decide, rfl, by omega, by omega, by omega, by dsimp only; omega⟩, ?_⟩)
    | (refine arem (by omega) ?_)
    | (refine aquo (by omega) (by omega) ?_)
    | (refine au8 ?_)
    | (refine au64 (by omega) ?_)
    | (refine anat ?_)
    | (refine szOk rfl ?_)
    | (refine dvOk rfl (by omega) ?_)
    | (refine nzOk (by decide) ?_)
    | (refine lgOk (by kernel_rfl) ?_)
    | (refine kpOk (by kernel_rfl) ?_)
    | fail)
  all_goals conv => whnf
  all_goals first
    | exact frzLL (F := [(0, 1)]) (M := [(2, 0)]) no_ments5 cur_ments2 (hK ⟨_, _, _, _, _, _, _⟩ _ _ (hc'.up (by omega)) ⟨tok1 (by omega) (by unfold I64; omega), tok1 (by omega) (by unfold I64; omega), by dsimp only; omega, by dsimp only; omega, by dsimp only; omega, by dsimp only; omega, by dsimp only; omega⟩)
    | exact frzIL (M := [(2, 0)]) no_ments5 cur_ments2 (hK ⟨_, _, _, _, _, _, _⟩ _ _ (hc'.up (by omega)) ⟨⟨by assumption, by assumption⟩, tok1 (by omega) (by unfold I64; omega), by dsimp only; omega, by dsimp only; omega, by dsimp only; omega, by dsimp only; omega, by dsimp only; omega⟩)
    | exact frzLI (F := [(0, 1)]) no_ments5 cur_ments2 (hK ⟨_, _, _, _, _, _, _⟩ _ _ (hc'.up (by omega)) ⟨tok1 (by omega) (by unfold I64; omega), ⟨by assumption, by assumption⟩, by dsimp only; omega, by dsimp only; omega, by dsimp only; omega, by dsimp only; omega, by dsimp only; omega⟩)
    | exact .inr (.inr (hK ⟨_, _, _, _, _, _, _⟩ _ _ (hc'.up (by omega)) ⟨⟨by assumption, by assumption⟩, ⟨by assumption, by assumption⟩, by dsimp only; omega, by dsimp only; omega, by dsimp only; omega, by dsimp only; omega, by dsimp only; omega⟩))
end Go.Eng.T

namespace Go.Eng.T
open Go.Proofs Go.Eng Go.Eng.S
set_option maxRecDepth 100000
set_option maxHeartbeats 0

abbrev latV (N : Int) (up : List Int) : V := .agg [iv N, .is 1 (up.map uv)]
def Words (up : List Int) : Prop := ∀ x ∈ up, 0 ≤ x ∧ x ≤ 18446744073709551615
theorem frzLat {N : Int} {up : List Int} {objs : List Obj} {K : V → List Obj → List Obj → Prop} (hm : ∀ x ∈ objs, ∀ j, (1, j) ∉ x.ments) (k : K (latV N up) objs []) : ∃ v' news' n es, [Obj.arr true 1 (up.map uv)] = news' ++ [.arr true n es] ∧ LendR (1, news'.length) n es (.agg [iv N, .ls (1, 0) 1 0 up.length]) v' ∧ (∀ x ∈ objs ++ news', (1, news'.length) ∉ x.ments) ∧ K v' objs news' :=
  ⟨_, [], 1, _, rfl, .agg (.cons (.same (by simp [V.ments])) (.cons (.all (by simp)) .nil)), fun x hx => hm x (by simpa using hx) _, k⟩
theorem lat.ac (D : List Int) (k p s : Int) (hc : CurI D k p s) (hk : k ≤ 900000) {K : V → List Obj → List Obj → Prop} (hK : ∀ (N : Nat) (up : List Int) p' s', CurI D (k + 1) p' s' → 1 ≤ N → N ≤ 8 → up.length = N → Words up → K (latV N up) [cur D p' s'] []) : AC Try.prog 97 [.lp (0,0) 3 0 0] [cur D p s] K := by
  refine AC.frz ?_
  refine ac_body { imm := fun f => bif Nat.beq f 113 then [1] else [], keep := keepL [] } [((0, 0), true), ((4, 0), true), ((8, 0), true), ((10, 0), true), ((12, 0), true), ((15, 0), true), ((20, 0), true), ((27, 0), true), ((40, 0), true), ((41, 0), true), ((42, 0), true), ((54, 0), false)] hm htt Try.func97 rfl (by kernel_rfl) rfl rfl ?_
  conv => whnf
  refine ⟨⟨by decide, by decide, rfl⟩, ?_⟩
  conv => whnf
  refine cpick.ac D k p s 6 hc (by omega) fun r p1 s1 hc1 h1 h2 => ?_
  have hr : r = 0 ∨ r = 1 ∨ r = 2 ∨ r = 3 ∨ r = 4 ∨ r = 5 := by omega
  rcases hr with rfl | rfl | rfl | rfl | rfl | rfl
  · conv => whnf
    refine ⟨⟨rfl, by decide, by decide⟩, ?_⟩
    conv => whnf
    refine ⟨⟨rfl, by decide, by decide⟩, ?_⟩
    conv => whnf
    refine ⟨by kernel_rfl, ?_⟩
    conv => whnf
    refine L.LatOfS.ac1 ?_
    conv => whnf
    refine ⟨by kernel_rfl, ?_⟩
    conv => whnf
    exact frzLat (up := [1]) cur_ments2 (hK 1 [1] _ _ hc1 (by decide) (by decide) rfl (by unfold Words; decide))
  · conv => whnf
    refine ⟨⟨rfl, by decide, by decide⟩, ?_⟩
    conv => whnf
    refine ⟨⟨rfl, by decide, by decide⟩, ?_⟩
    conv => whnf
    refine ⟨by kernel_rfl, ?_⟩
    conv => whnf
    refine L.LatOfS.ac2 ?_
    conv => whnf
    refine ⟨by kernel_rfl, ?_⟩
    conv => whnf
    exact frzLat (up := [3, 2]) cur_ments2 (hK 2 [3, 2] _ _ hc1 (by decide) (by decide) rfl (by unfold Words; decide))
  · conv => whnf
    refine ⟨⟨rfl, by decide, by decide⟩, ?_⟩
    conv => whnf
    refine ⟨⟨rfl, by decide, by decide⟩, ?_⟩
    conv => whnf
    refine ⟨by kernel_rfl, ?_⟩
    conv => whnf
    refine L.LatOfS.ac3 ?_
    conv => whnf
    refine ⟨by kernel_rfl, ?_⟩
    conv => whnf
    exact frzLat (up := [7, 6, 4]) cur_ments2 (hK 3 [7, 6, 4] _ _ hc1 (by decide) (by decide) rfl (by unfold Words; decide))
  · conv => whnf
    refine ⟨⟨rfl, by decide, by decide⟩, ?_⟩
    conv => whnf
    refine ⟨⟨rfl, by decide, by decide⟩, ?_⟩
    conv => whnf
    refine ⟨by kernel_rfl, ?_⟩
    conv => whnf
    refine L.LatOfS.ac4 ?_
    conv => whnf
    refine ⟨by kernel_rfl, ?_⟩
    conv => whnf
    exact frzLat (up := [15, 10, 12, 8]) cur_ments2 (hK 4 [15, 10, 12, 8] _ _ hc1 (by decide) (by decide) rfl (by unfold Words; decide))
  · conv => whnf
    refine ⟨⟨rfl, by decide, by decide⟩, ?_⟩
    conv => whnf
    refine ⟨⟨rfl, by decide, by decide⟩, ?_⟩
    conv => whnf
    refine ⟨by kernel_rfl, ?_⟩
    conv => whnf
    refine L.LatOfS.ac5 ?_
    conv => whnf
    refine ⟨by kernel_rfl, ?_⟩
    conv => whnf
    exact frzLat (up := [9, 10, 12, 8, 31]) cur_ments2 (hK 5 [9, 10, 12, 8, 31] _ _ hc1 (by decide) (by decide) rfl (by unfold Words; decide))
  · conv => whnf
    refine ⟨⟨rfl, by decide, by decide⟩, ?_⟩
    conv => whnf
    refine ⟨⟨rfl, by decide, by decide⟩, ?_⟩
    conv => whnf
    refine ⟨by kernel_rfl, ?_⟩
    conv => whnf
    refine L.LatOfS.ac8 ?_
    conv => whnf
    refine ⟨by kernel_rfl, ?_⟩
    conv => whnf
    exact frzLat (up := [255, 178, 212, 232, 144, 160, 192, 128]) cur_ments2 (hK 8 [255, 178, 212, 232, 144, 160, 192, 128] _ _ hc1 (by decide) (by decide) rfl (by unfold Words; decide))
theorem punct.ac (D : List Int) (k p s N : Int) (up : List Int) (hc : CurI D k p s) (hk : k ≤ 800000) {K : V → List Obj → List Obj → Prop} (hK : ∀ a b c d p' s', CurI D (k + 10) p' s' → I64 a → I64 b → I64 c → I64 d → K (.agg [iv a, iv b, iv c, iv d]) [cur D p' s'] []) : AC Try.prog 96 [.lp (0,0) 3 0 0, latV N up] [cur D p s] K := by
  refine ac_body (ann []) [((997, 0), true), ((0, 0), true), ((5, 0), true), ((6, 0), true), ((9, 0), true), ((37, 0), false), ((47, 0), false), ((59, 0), false)] hm htt Try.func96 rfl (by kernel_rfl) rfl rfl ?_
  repeat' ((conv => whnf); first
    | (refine l04Pow.ac _ (by omega) fun r _ _ => ?_)
    | (refine aquoB (by omega) (by omega) fun r _ _ => ?_)
    | (refine amulB (by omega) (by omega) fun r _ _ => ?_)
    | (refine cpick.ac D _ _ _ _ ‹_› (by omega) fun r p' s' hc' _ _ => ?_)
    | (refine once.ac D _ _ _ _ ‹_› (by omega) (by omega) fun b p' s' hc' => ?_; cases b)
    | (refine raw.ac D _ _ _ ‹_› (by omega) fun r p' s' hc' _ _ => ?_)
    | (refine pickI2 rfl (by omega) fun x _ => ?_)
    | (refine pickI3 rfl (by omega) fun x _ => ?_)
    | (refine pickI4 rfl (by omega) fun x _ => ?_)
    | (refine pickI5 rfl (by omega) fun x _ => ?_)
    | (refine bF_dec (fun _ => ?_) (fun _ => ?_) <;> try (exfalso; omega))
    | (refine bF_eq (fun _ => ?_) (fun _ => ?_) <;> try (exfalso; omega))
    | (refine bF_ne (fun _ => ?_) (fun _ => ?_) <;> try (exfalso; omega))
    | (refine a64 (by omega) ?_)
    | (refine ix_at rfl (by omega) ?_)
    | (refine ⟨⟨rfl, by omega, by omega⟩, ?_⟩)
    | (refine map_at (by omega) ?_)
    | (refine alen ?_)
    | (refine amin ?_)
    | (refine amax ?_)
    | (refine ⟨⟨rfl, rfl, by simp [V.ments]⟩, ?_⟩)
    | (refine map_at0 (by omega) ?_)
    | (refine set_at rfl ?_)
    | (refine map_atI (by omega) ?_)
    | (refine map_atI0 (by omega) ?_)
    | (refine set_atI rfl ?_)
    | (refine ⟨⟨by decide, rfl, by omega, by omega, by omega, by dsimp only; omega⟩, ?_⟩)
    | (refine arem (by omega) ?_)
    | (refine aquo (by omega) (by omega) ?_)
    | (refine au8 ?_)
    | (refine au64 (by omega) ?_)
    | (refine anat ?_)
    | (refine szOk rfl ?_)
    | (refine dvOk rfl (by omega) ?_)
    | (refine nzOk (by decide) ?_)
    | (refine lgOk (by kernel_rfl) ?_)
    | (refine kpOk (by kernel_rfl) ?_)
    | fail)
  all_goals conv => whnf
  all_goals exact hK _ _ _ _ _ _ (hc'.up (by omega)) (by unfold I64; omega) (by unfold I64; omega) (by unfold I64; omega) (by unfold I64; omega)
end Go.Eng.T

namespace Go.Eng.T
open Go.Proofs Go.Eng Go.Eng.S
set_option maxRecDepth 100000
set_option maxHeartbeats 0

/-- What comes back is told by less. -/
theorem AC.weak {P : Program} {f : FuncId} {args : List V} {objs : List Obj} {K : V → List Obj → List Obj → Prop}
    (h : AC P f args objs fun v o n => ∃ v', (∀ {F : Cells} {m : Mem} {pl : Places} {cv : Value}, RepV F m pl v cv → RepV F m pl v' cv) ∧ K v' o n) : AC P f args objs K :=
  fun F pl w cargs h1 h2 h3 => (h F pl w cargs h1 h2 h3).mono fun _ _ ⟨_, a, b, F', pl', ⟨v', hv, hK⟩, hb⟩ => ⟨v', a, b, F', pl', hK, ⟨hv hb.rep, hb.wr, hb.len, hb.plk, hb.fF, hb.fX, hb.own, hb.same⟩⟩
abbrev encS (s : Int × Int × Int) : V := .agg [iv s.1, iv s.2.1, iv s.2.2]
structure RuleR where
  q : Int
  f : Int
  t : Int
  l : Int
  b : Int
instance : Inhabited RuleR := ⟨⟨0, 0, 0, 0, 0⟩⟩
abbrev encRu (r : RuleR) : V := .agg [iv r.q, iv r.f, iv r.t, iv r.l, iv r.b]
structure ConfR where
  N : Int
  up : List Int
  src : Int
  quota : Int
  qs : List QueryR
  subs : List (Int × Int × Int)
  rules : List RuleR
abbrev encConf (c : ConfR) : V := .agg [iv c.N, .is 1 (c.up.map uv), iv c.src, iv c.quota, .is 7 (c.qs.map encQ), .is 3 (c.subs.map encS), .is 5 (c.rules.map encRu)]
theorem ints11 {a b c d e f g h i j k : Int} (H : (I64 a ∧ I64 b ∧ I64 c ∧ I64 d ∧ I64 e ∧ I64 f) ∧ I64 g ∧ I64 h ∧ I64 i ∧ I64 j ∧ I64 k) : OpR.ints ⟨a, b, c, d, e, f, g, h, i, j, k⟩ := fun x hx => by
  simp only [OpR.fs, List.mem_cons, List.not_mem_nil, or_false] at hx
  rcases hx with rfl | rfl | rfl | rfl | rfl | rfl | rfl | rfl | rfl | rfl | rfl
  all_goals simp only [H]
theorem badElem.ac (D : List Int) (k p s : Int) (hc : CurI D k p s) (hk : k ≤ 700000) {K : V → List Obj → List Obj → Prop} (hK : ∀ a b c d p' s', CurI D (k + 30) p' s' → I64 a → I64 b → I64 c → I64 d → K (.agg [iv a, iv b, iv c, iv d]) [cur D p' s'] []) : AC Try.prog 95 [.lp (0,0) 3 0 0] [cur D p s] K := by
  refine ac_body (ann []) [((997, 0), true), ((0, 0), true), ((4, 0), true), ((5, 0), true), ((14, 0), false), ((24, 0), false)] hm htt Try.func95 rfl (by kernel_rfl) rfl rfl ?_
  repeat' ((conv => whnf); first
    | (refine elem.ac D _ _ _ ‹_› (by omega) fun a b c d p' s' hc' _ _ _ _ => ?_)
    | (refine time.ac D _ _ _ ‹_› (by omega) fun a p' s' hc' _ => ?_)
    | (refine cpick.ac D _ _ _ _ ‹_› (by omega) fun r p' s' hc' _ _ => ?_)
    | (refine once.ac D _ _ _ _ ‹_› (by omega) (by omega) fun b p' s' hc' => ?_; cases b)
    | (refine raw.ac D _ _ _ ‹_› (by omega) fun r p' s' hc' _ _ => ?_)
    | (refine pickI2 rfl (by omega) fun x _ => ?_)
    | (refine pickI3 rfl (by omega) fun x _ => ?_)
    | (refine pickI4 rfl (by omega) fun x _ => ?_)
    | (refine pickI5 rfl (by omega) fun x _ => ?_)
    | (refine bF_dec (fun _ => ?_) (fun _ => ?_) <;> try (exfalso; omega))
    | (refine bF_eq (fun _ => ?_) (fun _ => ?_) <;> try (exfalso; omega))
    | (refine bF_ne (fun _ => ?_) (fun _ => ?_) <;> try (exfalso; omega))
    | (refine a64 (by omega) ?_)
    | (refine ix_at rfl (by omega) ?_)
    | (refine ⟨⟨rfl, by omega, by omega⟩, ?_⟩)
    | (refine map_at (by omega) ?_)
    | (refine alen ?_)
    | (refine amin ?_)
    | (refine amax ?_)
    | (refine ⟨⟨rfl, rfl, by simp [V.ments]⟩, ?_⟩)
    | (refine map_at0 (by omega) ?_)
    | (refine set_at rfl ?_)
    | (refine map_atI (by omega) ?_)
    | (refine map_atI0 (by omega) ?_)
    | (refine set_atI rfl ?_)
    | (refine ⟨⟨by decide, rfl, by omega, by omega, by omega, by dsimp only; omega⟩, ?_⟩)
    | (refine arem (by omega) ?_)
    | (refine aquo (by omega) (by omega) ?_)
    | (refine au8 ?_)
    | (refine au64 (by omega) ?_)
    | (refine anat ?_)
    | (refine szOk rfl ?_)
    | (refine dvOk rfl (by omega) ?_)
    | (refine nzOk (by decide) ?_)
    | (refine lgOk (by kernel_rfl) ?_)
    | (refine kpOk (by kernel_rfl) ?_)
    | fail)
  all_goals conv => whnf
  all_goals exact hK _ _ _ _ _ _ (hc'.up (by omega)) (by unfold I64 at *; omega) (by unfold I64 at *; omega) (by unfold I64 at *; omega) (by unfold I64 at *; omega)
theorem op.ac (D : List Int) (k p s : Int) (c : ConfR) (hc : CurI D k p s) (hk : k ≤ 700000) (hs : c.subs.length ≤ 1000000) {K : V → List Obj → List Obj → Prop} (hK : ∀ (o : OpR) p' s', CurI D (k + 30) p' s' → o.ints → K (encOp o) [cur D p' s'] []) : AC Try.prog 94 [.lp (0,0) 3 0 0, encConf c] [cur D p s] K := by
  refine ac_body (ann []) [((997, 0), true), ((0, 0), true), ((5, 0), true), ((6, 0), true), ((8, 0), true), ((9, 0), true), ((10, 0), true), ((69, 0), false), ((90, 0), false)] hm htt Try.func94 rfl (by kernel_rfl) rfl rfl ?_
  repeat' ((conv => whnf); first
    | (refine elem.ac D _ _ _ ‹_› (by omega) fun a b c d p' s' hc' _ _ _ _ => ?_)
    | (refine punct.ac D _ _ _ _ _ ‹_› (by omega) fun a b c d p' s' hc' _ _ _ _ => ?_)
    | (refine cpick.ac D _ _ _ _ ‹_› (by omega) fun r p' s' hc' _ _ => ?_)
    | (refine once.ac D _ _ _ _ ‹_› (by omega) (by omega) fun b p' s' hc' => ?_; cases b)
    | (refine raw.ac D _ _ _ ‹_› (by omega) fun r p' s' hc' _ _ => ?_)
    | (refine pickI2 rfl (by omega) fun x _ => ?_)
    | (refine pickI3 rfl (by omega) fun x _ => ?_)
    | (refine pickI4 rfl (by omega) fun x _ => ?_)
    | (refine pickI5 rfl (by omega) fun x _ => ?_)
    | (refine bF_dec (fun _ => ?_) (fun _ => ?_) <;> try (exfalso; omega))
    | (refine bF_eq (fun _ => ?_) (fun _ => ?_) <;> try (exfalso; omega))
    | (refine bF_ne (fun _ => ?_) (fun _ => ?_) <;> try (exfalso; omega))
    | (refine a64 (by omega) ?_)
    | (refine ix_at rfl (by omega) ?_)
    | (refine ⟨⟨rfl, by omega, by omega⟩, ?_⟩)
    | (refine map_at (by omega) ?_)
    | (refine alen ?_)
    | (refine amin ?_)
    | (refine amax ?_)
    | (refine ⟨⟨rfl, rfl, by simp [V.ments]⟩, ?_⟩)
    | (refine map_at0 (by omega) ?_)
    | (refine set_at rfl ?_)
    | (refine map_atI (by omega) ?_)
    | (refine map_atI0 (by omega) ?_)
    | (refine set_atI rfl ?_)
    | (refine ⟨⟨by decide, rfl, by omega, by omega, by omega, by dsimp only; omega⟩, ?_⟩)
    | (refine arem (by omega) ?_)
    | (refine aquo (by omega) (by omega) ?_)
    | (refine au8 ?_)
    | (refine au64 (by omega) ?_)
    | (refine anat ?_)
    | (refine szOk rfl ?_)
    | (refine dvOk rfl (by omega) ?_)
    | (refine nzOk (by decide) ?_)
    | (refine lgOk (by kernel_rfl) ?_)
    | (refine kpOk (by kernel_rfl) ?_)
    | fail)
  all_goals conv => whnf
  all_goals first
    | exact hK ⟨_, _, _, _, _, _, _, _, _, _, _⟩ _ _ (hc'.up (by omega)) (ints11 (by unfold I64 at *; omega))
end Go.Eng.T

namespace Go.Eng.T
open Go.Proofs Go.Eng Go.Eng.S
set_option maxRecDepth 100000
set_option maxHeartbeats 0

abbrev confO (N : Int) (up : List Int) (a b : Int) (q s r : V) : Obj := .arr false 7 [.agg [iv N, .is 1 (up.map uv), iv a, iv b, q, s, r]]
abbrev zeroConf : Obj := .arr false 7 [.agg [iv 0, nilS, iv 0, iv 0, nilS, nilS, nilS]]
theorem mem_objs {objs n : List Obj} {j : Nat} (hm : ∀ x ∈ objs, ∀ j, (1, j) ∉ x.ments) (hn : ∀ x ∈ n, x.ments = []) : ∀ x ∈ objs ++ n, (1, j) ∉ x.ments := fun x hx => by
  rcases List.mem_append.1 hx with hx | hx
  · exact hm x hx _
  · rw [hn x hx]; exact List.not_mem_nil
theorem frzC3 {α β γ : Type} {a b c d : V} {f : α → V} {g : β → V} {h : γ → V} {n m l : Nat} {qs : List α} {ss : List β} {rs : List γ} {objs : List Obj} {K : V → List Obj → List Obj → Prop} (hr : ∀ x ∈ [a, b, c, d], x.ments = []) (hm : ∀ x ∈ objs, ∀ j, (1, j) ∉ x.ments)
    (k : K (.agg [a, b, c, d, .is n (qs.map f), .is m (ss.map g), .is l (rs.map h)]) objs []) : FrO (FrO (FrO K)) (.agg [a, b, c, d, .ls (1, 0) n 0 qs.length, .ls (1, 1) m 0 ss.length, .ls (1, 2) l 0 rs.length]) objs [.arr true n (qs.map f), .arr true m (ss.map g), .arr true l (rs.map h)] := by
  have ha : a.ments = [] := hr a (by simp)
  have hb : b.ments = [] := hr b (by simp)
  have hc : c.ments = [] := hr c (by simp)
  have hd : d.ments = [] := hr d (by simp)
  refine .inl ⟨.agg [a, b, c, d, .ls (1, 0) n 0 qs.length, .ls (1, 1) m 0 ss.length, .is l (rs.map h)], [.arr true n (qs.map f), .arr true m (ss.map g)], l, _, rfl, .agg (.cons (.same (by simp [ha])) (.cons (.same (by simp [hb])) (.cons (.same (by simp [hc])) (.cons (.same (by simp [hd])) (.cons (.same (by simp [V.ments])) (.cons (.same (by simp [V.ments])) (.cons (.all (by simp)) .nil))))))), mem_objs hm (by simp [Obj.ments]), ?_⟩
  refine .inl ⟨.agg [a, b, c, d, .ls (1, 0) n 0 qs.length, .is m (ss.map g), .is l (rs.map h)], [.arr true n (qs.map f)], m, _, rfl, .agg (.cons (.same (by simp [ha])) (.cons (.same (by simp [hb])) (.cons (.same (by simp [hc])) (.cons (.same (by simp [hd])) (.cons (.same (by simp [V.ments])) (.cons (.all (by simp)) (.cons (.same (by simp [V.ments])) .nil))))))), mem_objs hm (by simp [Obj.ments]), ?_⟩
  exact .inl ⟨_, [], n, _, rfl, .agg (.cons (.same (by simp [ha])) (.cons (.same (by simp [hb])) (.cons (.same (by simp [hc])) (.cons (.same (by simp [hd])) (.cons (.all (by simp)) (.cons (.same (by simp [V.ments])) (.cons (.same (by simp [V.ments])) .nil))))))), mem_objs hm (by simp), k⟩
theorem frzC2 {α β : Type} {a b c d e : V} {f : α → V} {g : β → V} {n m : Nat} {qs : List α} {ss : List β} {objs : List Obj} {K : V → List Obj → List Obj → Prop} (hr : ∀ x ∈ [a, b, c, d, e], x.ments = []) (hm : ∀ x ∈ objs, ∀ j, (1, j) ∉ x.ments)
    (k : K (.agg [a, b, c, d, .is n (qs.map f), .is m (ss.map g), e]) objs []) : FrO (FrO (FrO K)) (.agg [a, b, c, d, .ls (1, 0) n 0 qs.length, .ls (1, 1) m 0 ss.length, e]) objs [.arr true n (qs.map f), .arr true m (ss.map g)] := by
  have ha : a.ments = [] := hr a (by simp)
  have hb : b.ments = [] := hr b (by simp)
  have hc : c.ments = [] := hr c (by simp)
  have hd : d.ments = [] := hr d (by simp)
  have he : e.ments = [] := hr e (by simp)
  refine .inl ⟨.agg [a, b, c, d, .ls (1, 0) n 0 qs.length, .is m (ss.map g), e], [.arr true n (qs.map f)], m, _, rfl, .agg (.cons (.same (by simp [ha])) (.cons (.same (by simp [hb])) (.cons (.same (by simp [hc])) (.cons (.same (by simp [hd])) (.cons (.same (by simp [V.ments])) (.cons (.all (by simp)) (.cons (.same (by simp [he])) .nil))))))), mem_objs hm (by simp [Obj.ments]), ?_⟩
  exact .inl ⟨_, [], n, _, rfl, .agg (.cons (.same (by simp [ha])) (.cons (.same (by simp [hb])) (.cons (.same (by simp [hc])) (.cons (.same (by simp [hd])) (.cons (.all (by simp)) (.cons (.same (by simp [V.ments])) (.cons (.same (by simp [he])) .nil))))))), mem_objs hm (by simp), .inr k⟩
theorem conf_nil {a b c d q s : V} {F : Cells} {m : Mem} {pl : Places} {cv : Value} (h : RepV F m pl (.agg [a, b, c, d, q, s, nilS]) cv) : RepV F m pl (.agg [a, b, c, d, q, s, .is 5 (([] : List RuleR).map encRu)]) cv := by
  cases h with
  | agg cs h1 h2 =>
    refine .agg cs h1 fun i x hi hx => ?_
    by_cases h6 : i = 6
    · subst h6
      obtain rfl : V.is 5 (([] : List RuleR).map encRu) = x := by simpa using hx
      exact nil_is (h2 6 nilS hi rfl)
    · refine h2 i x hi ?_
      have : i < 7 := by have := (List.getElem?_eq_some_iff.1 hx).1; simpa using this
      match i, this with
      | 0, _ => exact hx
      | 1, _ => exact hx
      | 2, _ => exact hx
      | 3, _ => exact hx
      | 4, _ => exact hx
      | 5, _ => exact hx
      | 6, _ => exact absurd rfl h6
abbrev WeakK (K : V → List Obj → List Obj → Prop) : V → List Obj → List Obj → Prop := fun v o n => ∃ v', (∀ {F : Cells} {m : Mem} {pl : Places} {cv : Value}, RepV F m pl v cv → RepV F m pl v' cv) ∧ K v' o n
theorem confEnd2 (K : V → List Obj → List Obj → Prop) {D : List Int} {p s N a b : Int} {up : List Int} {qs : List QueryR} {ss : List (Int × Int × Int)} (k : K (encConf ⟨N, up, a, b, qs, ss, []⟩) [cur D p s] []) :
    FrO (FrO (FrO (WeakK K))) (.agg [iv N, .is 1 (up.map uv), iv a, iv b, .ls (1, 0) 7 0 qs.length, .ls (1, 1) 3 0 ss.length, nilS]) [cur D p s] [.arr true 7 (qs.map encQ), .arr true 3 (ss.map encS)] :=
  frzC2 (by simp [V.ments]) cur_ments2 ⟨_, fun h => conf_nil h, k⟩
theorem confEnd3 (K : V → List Obj → List Obj → Prop) {D : List Int} {p s N a b : Int} {up : List Int} {qs : List QueryR} {ss : List (Int × Int × Int)} {rs : List RuleR} (k : K (encConf ⟨N, up, a, b, qs, ss, rs⟩) [cur D p s] []) :
    FrO (FrO (FrO (WeakK K))) (.agg [iv N, .is 1 (up.map uv), iv a, iv b, .ls (1, 0) 7 0 qs.length, .ls (1, 1) 3 0 ss.length, .ls (1, 2) 5 0 rs.length]) [cur D p s] [.arr true 7 (qs.map encQ), .arr true 3 (ss.map encS), .arr true 5 (rs.map encRu)] :=
  frzC3 (by simp [V.ments]) cur_ments2 ⟨_, fun h => h, k⟩
theorem conf.ac (D : List Int) (k p s : Int) (hc : CurI D k p s) (hk : k ≤ 200000) {K : V → List Obj → List Obj → Prop} (hK : ∀ c p' s', CurI D (k + 400) p' s' → c.subs.length ≤ 3 → K (encConf c) [cur D p' s'] []) : AC Try.prog 70 [.lp (0,0) 3 0 0] [cur D p s] K := by
  refine AC.weak (AC.frzO (AC.frzO (AC.frzO ?_)))
  refine ac_body (annW [] [(12, [0, 2, 3, 4, 7], [(0, 0), (4, 0), (5, 0), (37, 1), (63, 1), (94, 1)]), (8, [0, 2, 3, 4, 6], [(0, 0), (4, 0), (5, 0), (37, 1), (63, 1)]), (4, [0, 2, 3, 4, 5], [(0, 0), (4, 0), (5, 0), (37, 1)])] [(4, (37, 1), [37]), (8, (63, 1), [63]), (12, (94, 1), [94])]) [((997, 0), true), ((0, 0), true), ((4, 0), true), ((15, 0), false), ((5, 0), true), ((36, 0), true), ((37, 0), false), ((37, 1), false), ((51, 0), false), ((56, 0), false), ((62, 0), true), ((63, 0), false), ((63, 1), false), ((87, 0), false), ((93, 0), true), ((94, 0), false), ((94, 1), false)] hm htt Try.func70 rfl (by kernel_rfl) rfl rfl ?_
  repeat' ((conv => whnf); first
    | (refine lat.ac D _ _ _ ‹_› (by omega) fun N up p' s' hc' _ _ _ _ => ?_)
    | (refine cpick.ac D _ _ _ _ ‹_› (by omega) fun r p' s' hc' _ _ => ?_)
    | (refine once.ac D _ _ _ _ ‹_› (by omega) (by omega) fun b p' s' hc' => ?_; cases b)
    | (refine raw.ac D _ _ _ ‹_› (by omega) fun r p' s' hc' _ _ => ?_)
    | (refine pickI2 rfl (by omega) fun x _ => ?_)
    | (refine pickI3 rfl (by omega) fun x _ => ?_)
    | (refine pickI4 rfl (by omega) fun x _ => ?_)
    | (refine pickI5 rfl (by omega) fun x _ => ?_)
    | (refine bF_dec (fun _ => ?_) (fun _ => ?_) <;> try (exfalso; omega))
    | (refine bF_eq (fun _ => ?_) (fun _ => ?_) <;> try (exfalso; omega))
    | (refine bF_ne (fun _ => ?_) (fun _ => ?_) <;> try (exfalso; omega))
    | (refine a64 (by omega) ?_)
    | (refine ix_at rfl (by omega) ?_)
    | (refine ⟨⟨rfl, by omega, by omega⟩, ?_⟩)
    | (refine map_at (by omega) ?_)
    | (refine alen ?_)
    | (refine amin ?_)
    | (refine amax ?_)
    | (refine ⟨⟨rfl, rfl, by simp [V.ments]⟩, ?_⟩)
    | (refine map_at0 (by omega) ?_)
    | (refine set_at rfl ?_)
    | (refine map_atI (by omega) ?_)
    | (refine map_atI0 (by omega) ?_)
    | (refine set_atI rfl ?_)
    | (refine ⟨⟨by decide, rfl, by omega, by omega, by omega, by dsimp only; omega⟩, ?_⟩)
    | (refine arem (by omega) ?_)
    | (refine aquo (by omega) (by omega) ?_)
    | (refine au8 ?_)
    | (refine au64 (by omega) ?_)
    | (refine anat ?_)
    | (refine szOk rfl ?_)
    | (refine dvOk rfl (by omega) ?_)
    | (refine nzOk (by decide) ?_)
    | (refine lgOk (by kernel_rfl) ?_)
    | (refine kpOk (by kernel_rfl) ?_)
    | fail)
  all_goals conv => whnf
  refine cwF_loop (fun m st => ∃ (z p s a b : Int), (m = z.toNat ∧ 0 ≤ z ∧ z ≤ 2 ∧ CurI D (k + 4 + 170 * (2 - z)) p s) ∧
    ((1 ≤ z ∧ st = ⟨[.lp (0, 0) 3 0 0, .un, .lp (4, 0) 7 0 0, .lp (5, 0) 7 0 0, iv (max 1 (N : Int)), iv z] ++ List.replicate 89 .un, mkOb [((0, 0), some (cur D p s)), ((4, 0), some zeroConf), ((5, 0), some (confO N up a b nilS nilS nilS)), ((37, 1), none)]⟩) ∨
     ∃ qs : List QueryR, (qs.length : Int) ≤ 2 - z ∧ st = ⟨[.lp (0, 0) 3 0 0, .un, .lp (4, 0) 7 0 0, .lp (5, 0) 7 0 0, iv (max 1 (N : Int)), iv z] ++ List.replicate 89 .un, mkOb [((0, 0), some (cur D p s)), ((4, 0), some zeroConf), ((5, 0), some (confO N up a b (.ls (37, 1) 7 0 qs.length) nilS nilS)), ((37, 1), some (.arr true 7 (qs.map encQ)))]⟩)) (1 + r).toNat (by kernel_rfl) ?_ ?_
  · exact ⟨1 + r, _, _, _, _, ⟨rfl, by omega, by omega, hc'.up (by omega)⟩, .inl ⟨by omega, rfl⟩⟩
  rintro m st ⟨z, p, s, a, b, ⟨rfl, z0, z1, hcz⟩, ⟨zp, rfl⟩ | ⟨qs, hq, rfl⟩⟩
  · repeat' ((conv => whnf); first
      | (refine query.ac D _ _ _ hcz (by omega) fun q p' s' hc' _ => ?_)
      | (refine app01 (f := encQ) (x := _) ⟨by decide, ⟨by simp, by simp⟩, rfl⟩ rfl ?_)
      | (refine cpick.ac D _ _ _ _ ‹_› (by omega) fun r p' s' hc' _ _ => ?_)
      | (refine once.ac D _ _ _ _ ‹_› (by omega) (by omega) fun b p' s' hc' => ?_; cases b)
      | (refine raw.ac D _ _ _ ‹_› (by omega) fun r p' s' hc' _ _ => ?_)
      | (refine pickI2 rfl (by omega) fun x _ => ?_)
      | (refine pickI3 rfl (by omega) fun x _ => ?_)
      | (refine pickI4 rfl (by omega) fun x _ => ?_)
      | (refine pickI5 rfl (by omega) fun x _ => ?_)
      | (refine bF_dec (fun _ => ?_) (fun _ => ?_) <;> try (exfalso; omega))
      | (refine bF_eq (fun _ => ?_) (fun _ => ?_) <;> try (exfalso; omega))
      | (refine bF_ne (fun _ => ?_) (fun _ => ?_) <;> try (exfalso; omega))
      | (refine a64 (by omega) ?_)
      | (refine ix_at rfl (by omega) ?_)
      | (refine ⟨⟨rfl, by omega, by omega⟩, ?_⟩)
      | (refine map_at (by omega) ?_)
      | (refine alen ?_)
      | (refine amin ?_)
      | (refine amax ?_)
      | (refine ⟨⟨rfl, rfl, by simp [V.ments]⟩, ?_⟩)
      | (refine map_at0 (by omega) ?_)
      | (refine set_at rfl ?_)
      | (refine map_atI (by omega) ?_)
      | (refine map_atI0 (by omega) ?_)
      | (refine set_atI rfl ?_)
      | (refine ⟨⟨by decide, rfl, by omega, by omega, by omega, by dsimp only; omega⟩, ?_⟩)
      | (refine arem (by omega) ?_)
      | (refine aquo (by omega) (by omega) ?_)
      | (refine au8 ?_)
      | (refine au64 (by omega) ?_)
      | (refine anat ?_)
      | (refine szOk rfl ?_)
      | (refine dvOk rfl (by omega) ?_)
      | (refine nzOk (by decide) ?_)
      | (refine lgOk (by kernel_rfl) ?_)
      | (refine kpOk (by kernel_rfl) ?_)
      | fail)
    all_goals conv => whnf
    exact ⟨(z - 1).toNat, by omega, _, _, _, _, _, ⟨rfl, by omega, by omega, ‹CurI D (k + 4 + 170 * (2 - z) + 170) _ _›.up (by omega)⟩, .inr ⟨[_], by simp; omega, rfl⟩⟩
  repeat' ((conv => whnf); first
    | (refine query.ac D _ _ _ hcz (by omega) fun q p' s' hc' _ => ?_)
    | (refine app1 (f := encQ) (x := _) ⟨by decide, rfl, rfl, by simp, ⟨by simp; omega, by simp; omega⟩, rfl, by simp [mentsOne]⟩ rfl ?_)
    | (refine cpick.ac D _ _ _ _ ‹_› (by omega) fun r p' s' hc' _ _ => ?_)
    | (refine once.ac D _ _ _ _ ‹_› (by omega) (by omega) fun b p' s' hc' => ?_; cases b)
    | (refine raw.ac D _ _ _ ‹_› (by omega) fun r p' s' hc' _ _ => ?_)
    | (refine pickI2 rfl (by omega) fun x _ => ?_)
    | (refine pickI3 rfl (by omega) fun x _ => ?_)
    | (refine pickI4 rfl (by omega) fun x _ => ?_)
    | (refine pickI5 rfl (by omega) fun x _ => ?_)
    | (refine bF_dec (fun _ => ?_) (fun _ => ?_) <;> try (exfalso; omega))
    | (refine bF_eq (fun _ => ?_) (fun _ => ?_) <;> try (exfalso; omega))
    | (refine bF_ne (fun _ => ?_) (fun _ => ?_) <;> try (exfalso; omega))
    | (refine a64 (by omega) ?_)
    | (refine ix_at rfl (by omega) ?_)
    | (refine ⟨⟨rfl, by omega, by omega⟩, ?_⟩)
    | (refine map_at (by omega) ?_)
    | (refine alen ?_)
    | (refine amin ?_)
    | (refine amax ?_)
    | (refine ⟨⟨rfl, rfl, by simp [V.ments]⟩, ?_⟩)
    | (refine map_at0 (by omega) ?_)
    | (refine set_at rfl ?_)
    | (refine map_atI (by omega) ?_)
    | (refine map_atI0 (by omega) ?_)
    | (refine set_atI rfl ?_)
    | (refine ⟨⟨by decide, rfl, by omega, by omega, by omega, by dsimp only; omega⟩, ?_⟩)
    | (refine arem (by omega) ?_)
    | (refine aquo (by omega) (by omega) ?_)
    | (refine au8 ?_)
    | (refine au64 (by omega) ?_)
    | (refine anat ?_)
    | (refine szOk rfl ?_)
    | (refine dvOk rfl (by omega) ?_)
    | (refine nzOk (by decide) ?_)
    | (refine lgOk (by kernel_rfl) ?_)
    | (refine kpOk (by kernel_rfl) ?_)
    | fail)
  all_goals conv => whnf
  · exact ⟨(z - 1).toNat, by omega, _, _, _, _, _, ⟨rfl, by omega, by omega, ‹CurI D (k + 4 + 170 * (2 - z) + 170) _ _›.up (by omega)⟩, .inr ⟨qs ++ [_], by simp; omega, rfl⟩⟩
  refine cwF_loop (fun m st => ∃ (z p s : Int), (m = z.toNat ∧ 0 ≤ z ∧ z ≤ 3 ∧ CurI D (k + 345 + 3 * (3 - z)) p s) ∧
    ((1 ≤ z ∧ st = ⟨[.lp (0, 0) 3 0 0, .un, .lp (4, 0) 7 0 0, .lp (5, 0) 7 0 0, iv (max 1 (N : Int)), .un, iv z] ++ List.replicate 88 .un, mkOb [((0, 0), some (cur D p s)), ((4, 0), some zeroConf), ((5, 0), some (confO N up a b (.ls (37, 1) 7 0 qs.length) nilS nilS)), ((37, 1), some (.arr true 7 (qs.map encQ))), ((63, 1), none)]⟩) ∨
     ∃ ss : List (Int × Int × Int), (ss.length : Int) ≤ 3 - z ∧ st = ⟨[.lp (0, 0) 3 0 0, .un, .lp (4, 0) 7 0 0, .lp (5, 0) 7 0 0, iv (max 1 (N : Int)), .un, iv z] ++ List.replicate 88 .un, mkOb [((0, 0), some (cur D p s)), ((4, 0), some zeroConf), ((5, 0), some (confO N up a b (.ls (37, 1) 7 0 qs.length) (.ls (63, 1) 3 0 ss.length) nilS)), ((37, 1), some (.arr true 7 (qs.map encQ))), ((63, 1), some (.arr true 3 (ss.map encS)))]⟩)) (1 + r).toNat (by kernel_rfl) ?_ ?_
  · exact ⟨1 + r, _, _, ⟨rfl, by omega, by omega, hc'.up (by omega)⟩, .inl ⟨by omega, rfl⟩⟩
  rintro m st ⟨z, p, s, ⟨rfl, z0, z1, hcz⟩, ⟨zp, rfl⟩ | ⟨ss, hss, rfl⟩⟩
  · repeat' ((conv => whnf); first
      | (refine app01 (f := encS) (x := (_, _, _)) ⟨by decide, ⟨by simp, by simp⟩, rfl⟩ rfl ?_)
      | (refine cpick.ac D _ _ _ _ ‹_› (by omega) fun r p' s' hc' _ _ => ?_)
      | (refine once.ac D _ _ _ _ ‹_› (by omega) (by omega) fun b p' s' hc' => ?_; cases b)
      | (refine raw.ac D _ _ _ ‹_› (by omega) fun r p' s' hc' _ _ => ?_)
      | (refine pickI2 rfl (by omega) fun x _ => ?_)
      | (refine pickI3 rfl (by omega) fun x _ => ?_)
      | (refine pickI4 rfl (by omega) fun x _ => ?_)
      | (refine pickI5 rfl (by omega) fun x _ => ?_)
      | (refine bF_dec (fun _ => ?_) (fun _ => ?_) <;> try (exfalso; omega))
      | (refine bF_eq (fun _ => ?_) (fun _ => ?_) <;> try (exfalso; omega))
      | (refine bF_ne (fun _ => ?_) (fun _ => ?_) <;> try (exfalso; omega))
      | (refine a64 (by omega) ?_)
      | (refine ix_at rfl (by omega) ?_)
      | (refine ⟨⟨rfl, by omega, by omega⟩, ?_⟩)
      | (refine map_at (by omega) ?_)
      | (refine alen ?_)
      | (refine amin ?_)
      | (refine amax ?_)
      | (refine ⟨⟨rfl, rfl, by simp [V.ments]⟩, ?_⟩)
      | (refine map_at0 (by omega) ?_)
      | (refine set_at rfl ?_)
      | (refine map_atI (by omega) ?_)
      | (refine map_atI0 (by omega) ?_)
      | (refine set_atI rfl ?_)
      | (refine ⟨⟨by decide, rfl, by omega, by omega, by omega, by dsimp only; omega⟩, ?_⟩)
      | (refine arem (by omega) ?_)
      | (refine aquo (by omega) (by omega) ?_)
      | (refine au8 ?_)
      | (refine au64 (by omega) ?_)
      | (refine anat ?_)
      | (refine szOk rfl ?_)
      | (refine dvOk rfl (by omega) ?_)
      | (refine nzOk (by decide) ?_)
      | (refine lgOk (by kernel_rfl) ?_)
      | (refine kpOk (by kernel_rfl) ?_)
      | fail)
    all_goals conv => whnf
    exact ⟨(z - 1).toNat, by omega, _, _, _, ⟨rfl, by omega, by omega, hc'.up (by omega)⟩, .inr ⟨[(_, _, _)], by simp; omega, rfl⟩⟩
  repeat' ((conv => whnf); first
    | (refine app1 (f := encS) (x := (_, _, _)) ⟨by decide, rfl, rfl, by simp, ⟨by simp; omega, by simp; omega⟩, rfl, by simp [mentsOne]⟩ rfl ?_)
    | (refine cpick.ac D _ _ _ _ ‹_› (by omega) fun r p' s' hc' _ _ => ?_)
    | (refine once.ac D _ _ _ _ ‹_› (by omega) (by omega) fun b p' s' hc' => ?_; cases b)
    | (refine raw.ac D _ _ _ ‹_› (by omega) fun r p' s' hc' _ _ => ?_)
    | (refine pickI2 rfl (by omega) fun x _ => ?_)
    | (refine pickI3 rfl (by omega) fun x _ => ?_)
    | (refine pickI4 rfl (by omega) fun x _ => ?_)
    | (refine pickI5 rfl (by omega) fun x _ => ?_)
    | (refine bF_dec (fun _ => ?_) (fun _ => ?_) <;> try (exfalso; omega))
    | (refine bF_eq (fun _ => ?_) (fun _ => ?_) <;> try (exfalso; omega))
    | (refine bF_ne (fun _ => ?_) (fun _ => ?_) <;> try (exfalso; omega))
    | (refine a64 (by omega) ?_)
    | (refine ix_at rfl (by omega) ?_)
    | (refine ⟨⟨rfl, by omega, by omega⟩, ?_⟩)
    | (refine map_at (by omega) ?_)
    | (refine alen ?_)
    | (refine amin ?_)
    | (refine amax ?_)
    | (refine ⟨⟨rfl, rfl, by simp [V.ments]⟩, ?_⟩)
    | (refine map_at0 (by omega) ?_)
    | (refine set_at rfl ?_)
    | (refine map_atI (by omega) ?_)
    | (refine map_atI0 (by omega) ?_)
    | (refine set_atI rfl ?_)
    | (refine ⟨⟨by decide, rfl, by omega, by omega, by omega, by dsimp only; omega⟩, ?_⟩)
    | (refine arem (by omega) ?_)
    | (refine aquo (by omega) (by omega) ?_)
    | (refine au8 ?_)
    | (refine au64 (by omega) ?_)
    | (refine anat ?_)
    | (refine szOk rfl ?_)
    | (refine dvOk rfl (by omega) ?_)
    | (refine nzOk (by decide) ?_)
    | (refine lgOk (by kernel_rfl) ?_)
    | (refine kpOk (by kernel_rfl) ?_)
    | fail)
  all_goals conv => whnf
  · exact ⟨(z - 1).toNat, by omega, _, _, _, ⟨rfl, by omega, by omega, hc'.up (by omega)⟩, .inr ⟨ss ++ [(_, _, _)], by simp; omega, rfl⟩⟩
  refine cwF_loop (fun m st => ∃ (z p s : Int), (m = z.toNat ∧ 0 ≤ z ∧ z ≤ 2 ∧ CurI D (k + 356 + 10 * (2 - z)) p s) ∧
    ((st = ⟨[.lp (0, 0) 3 0 0, .un, .lp (4, 0) 7 0 0, .lp (5, 0) 7 0 0, iv (max 1 (N : Int)), .un, .un, iv z] ++ List.replicate 87 .un, mkOb [((0, 0), some (cur D p s)), ((4, 0), some zeroConf), ((5, 0), some (confO N up a b (.ls (37, 1) 7 0 qs.length) (.ls (63, 1) 3 0 ss.length) nilS)), ((37, 1), some (.arr true 7 (qs.map encQ))), ((63, 1), some (.arr true 3 (ss.map encS))), ((94, 1), none)]⟩) ∨
     ∃ rs : List RuleR, (rs.length : Int) ≤ 2 - z ∧ st = ⟨[.lp (0, 0) 3 0 0, .un, .lp (4, 0) 7 0 0, .lp (5, 0) 7 0 0, iv (max 1 (N : Int)), .un, .un, iv z] ++ List.replicate 87 .un, mkOb [((0, 0), some (cur D p s)), ((4, 0), some zeroConf), ((5, 0), some (confO N up a b (.ls (37, 1) 7 0 qs.length) (.ls (63, 1) 3 0 ss.length) (.ls (94, 1) 5 0 rs.length))), ((37, 1), some (.arr true 7 (qs.map encQ))), ((63, 1), some (.arr true 3 (ss.map encS))), ((94, 1), some (.arr true 5 (rs.map encRu)))]⟩)) r.toNat (by kernel_rfl) ?_ ?_
  · exact ⟨r, _, _, ⟨rfl, by omega, by omega, hc'.up (by omega)⟩, .inl rfl⟩
  rintro m st ⟨z, p, s, ⟨rfl, z0, z1, hcz⟩, rfl | ⟨rs, hrs, rfl⟩⟩
  · repeat' ((conv => whnf); first
      | (refine app01 (f := encRu) (x := ⟨_, _, _, _, _⟩) ⟨by decide, ⟨by simp, by simp⟩, rfl⟩ rfl ?_)
      | (refine cpick.ac D _ _ _ _ ‹_› (by omega) fun r p' s' hc' _ _ => ?_)
      | (refine once.ac D _ _ _ _ ‹_› (by omega) (by omega) fun b p' s' hc' => ?_; cases b)
      | (refine raw.ac D _ _ _ ‹_› (by omega) fun r p' s' hc' _ _ => ?_)
      | (refine pickI2 rfl (by omega) fun x _ => ?_)
      | (refine pickI3 rfl (by omega) fun x _ => ?_)
      | (refine pickI4 rfl (by omega) fun x _ => ?_)
      | (refine pickI5 rfl (by omega) fun x _ => ?_)
      | (refine bF_dec (fun _ => ?_) (fun _ => ?_) <;> try (exfalso; omega))
      | (refine bF_eq (fun _ => ?_) (fun _ => ?_) <;> try (exfalso; omega))
      | (refine bF_ne (fun _ => ?_) (fun _ => ?_) <;> try (exfalso; omega))
      | (refine a64 (by omega) ?_)
      | (refine ix_at rfl (by omega) ?_)
      | (refine ⟨⟨rfl, by omega, by omega⟩, ?_⟩)
      | (refine map_at (by omega) ?_)
      | (refine alen ?_)
      | (refine amin ?_)
      | (refine amax ?_)
      | (refine ⟨⟨rfl, rfl, by simp [V.ments]⟩, ?_⟩)
      | (refine map_at0 (by omega) ?_)
      | (refine set_at rfl ?_)
      | (refine map_atI (by omega) ?_)
      | (refine map_atI0 (by omega) ?_)
      | (refine set_atI rfl ?_)
      | (refine ⟨⟨by decide, rfl, by omega, by omega, by omega, by dsimp only; omega⟩, ?_⟩)
      | (refine arem (by omega) ?_)
      | (refine aquo (by omega) (by omega) ?_)
      | (refine au8 ?_)
      | (refine au64 (by omega) ?_)
      | (refine anat ?_)
      | (refine szOk rfl ?_)
      | (refine dvOk rfl (by omega) ?_)
      | (refine nzOk (by decide) ?_)
      | (refine lgOk (by kernel_rfl) ?_)
      | (refine kpOk (by kernel_rfl) ?_)
      | fail)
    all_goals conv => whnf
    · exact ⟨(z - 1).toNat, by omega, _, _, _, ⟨rfl, by omega, by omega, hc'.up (by omega)⟩, .inr ⟨[⟨_, _, _, _, _⟩], by simp; omega, rfl⟩⟩
    exact confEnd2 K (hK ⟨N, up, a, b, qs, ss, []⟩ _ _ (hcz.up (by omega)) (by dsimp only; omega))
  · repeat' ((conv => whnf); first
      | (refine app1 (f := encRu) (x := ⟨_, _, _, _, _⟩) ⟨by decide, rfl, rfl, by simp, ⟨by simp; omega, by simp; omega⟩, rfl, by simp [mentsOne]⟩ rfl ?_)
      | (refine cpick.ac D _ _ _ _ ‹_› (by omega) fun r p' s' hc' _ _ => ?_)
      | (refine once.ac D _ _ _ _ ‹_› (by omega) (by omega) fun b p' s' hc' => ?_; cases b)
      | (refine raw.ac D _ _ _ ‹_› (by omega) fun r p' s' hc' _ _ => ?_)
      | (refine pickI2 rfl (by omega) fun x _ => ?_)
      | (refine pickI3 rfl (by omega) fun x _ => ?_)
      | (refine pickI4 rfl (by omega) fun x _ => ?_)
      | (refine pickI5 rfl (by omega) fun x _ => ?_)
      | (refine bF_dec (fun _ => ?_) (fun _ => ?_) <;> try (exfalso; omega))
      | (refine bF_eq (fun _ => ?_) (fun _ => ?_) <;> try (exfalso; omega))
      | (refine bF_ne (fun _ => ?_) (fun _ => ?_) <;> try (exfalso; omega))
      | (refine a64 (by omega) ?_)
      | (refine ix_at rfl (by omega) ?_)
      | (refine ⟨⟨rfl, by omega, by omega⟩, ?_⟩)
      | (refine map_at (by omega) ?_)
      | (refine alen ?_)
      | (refine amin ?_)
      | (refine amax ?_)
      | (refine ⟨⟨rfl, rfl, by simp [V.ments]⟩, ?_⟩)
      | (refine map_at0 (by omega) ?_)
      | (refine set_at rfl ?_)
      | (refine map_atI (by omega) ?_)
      | (refine map_atI0 (by omega) ?_)
      | (refine set_atI rfl ?_)
      | (refine ⟨⟨by decide, rfl, by omega, by omega, by omega, by dsimp only; omega⟩, ?_⟩)
      | (refine arem (by omega) ?_)
      | (refine aquo (by omega) (by omega) ?_)
      | (refine au8 ?_)
      | (refine au64 (by omega) ?_)
      | (refine anat ?_)
      | (refine szOk rfl ?_)
      | (refine dvOk rfl (by omega) ?_)
      | (refine nzOk (by decide) ?_)
      | (refine lgOk (by kernel_rfl) ?_)
      | (refine kpOk (by kernel_rfl) ?_)
      | fail)
    all_goals conv => whnf
    · exact ⟨(z - 1).toNat, by omega, _, _, _, ⟨rfl, by omega, by omega, hc'.up (by omega)⟩, .inr ⟨rs ++ [⟨_, _, _, _, _⟩], by simp; omega, rfl⟩⟩
    exact confEnd3 K (hK ⟨N, up, a, b, qs, ss, rs⟩ _ _ (hcz.up (by omega)) (by dsimp only; omega))
end Go.Eng.T

namespace Go.Eng.T
open Go.Proofs Go.Eng Go.Eng.S
set_option maxRecDepth 100000
set_option maxHeartbeats 0

theorem ints_all {o : OpR} (h : o.ints) : (I64 o.k ∧ I64 o.eS ∧ I64 o.eK ∧ I64 o.eV ∧ I64 o.eT ∧ I64 o.pS) ∧ I64 o.pB ∧ I64 o.pK ∧ I64 o.pL ∧ I64 o.s ∧ I64 o.n := by
  refine ⟨⟨?_, ?_, ?_, ?_, ?_, ?_⟩, ?_, ?_, ?_, ?_, ?_⟩ <;> exact h _ (by simp [OpR.fs])
theorem badOp.ac (D : List Int) (k p s : Int) (c : ConfR) (hc : CurI D k p s) (hk : k ≤ 600000) (hs : c.subs.length ≤ 1000000) {K : V → List Obj → List Obj → Prop} (hK : ∀ (o : OpR) p' s', CurI D (k + 80) p' s' → o.ints → K (encOp o) [cur D p' s'] []) : AC Try.prog 69 [.lp (0,0) 3 0 0, encConf c] [cur D p s] K := by
  have hK' : ∀ a b c d e f g h i j l p' s', CurI D (k + 80) p' s' → ((I64 a ∧ I64 b ∧ I64 c ∧ I64 d ∧ I64 e ∧ I64 f) ∧ I64 g ∧ I64 h ∧ I64 i ∧ I64 j ∧ I64 l) → K (.agg [iv a, iv b, iv c, iv d, iv e, iv f, iv g, iv h, iv i, iv j, iv l]) [cur D p' s'] [] := fun a b c d e f g h i j l p' s' h1 h2 => hK ⟨a, b, c, d, e, f, g, h, i, j, l⟩ p' s' h1 (ints11 h2)
  refine ac_body (ann []) [((997, 0), true), ((0, 0), true), ((5, 0), true), ((6, 0), true), ((7, 0), true), ((17, 0), false), ((27, 0), false), ((37, 0), false)] hm htt Try.func69 rfl (by kernel_rfl) rfl rfl ?_
  repeat' ((conv => whnf); first
    | (refine op.ac D _ _ _ c ‹_› (by omega) hs fun o p' s' hc' ho => ?_)
    | (refine badElem.ac D _ _ _ ‹_› (by omega) fun a b c d p' s' hc' _ _ _ _ => ?_)
    | (refine punct.ac D _ _ _ _ _ ‹_› (by omega) fun a b c d p' s' hc' _ _ _ _ => ?_)
    | (refine cpick.ac D _ _ _ _ ‹_› (by omega) fun r p' s' hc' _ _ => ?_)
    | (refine once.ac D _ _ _ _ ‹_› (by omega) (by omega) fun b p' s' hc' => ?_; cases b)
    | (refine raw.ac D _ _ _ ‹_› (by omega) fun r p' s' hc' _ _ => ?_)
    | (refine pickI2 rfl (by omega) fun x _ => ?_)
    | (refine pickI3 rfl (by omega) fun x _ => ?_)
    | (refine pickI4 rfl (by omega) fun x _ => ?_)
    | (refine pickI5 rfl (by omega) fun x _ => ?_)
    | (refine bF_dec (fun _ => ?_) (fun _ => ?_) <;> try (exfalso; omega))
    | (refine bF_eq (fun _ => ?_) (fun _ => ?_) <;> try (exfalso; omega))
    | (refine bF_ne (fun _ => ?_) (fun _ => ?_) <;> try (exfalso; omega))
    | (refine a64 (by omega) ?_)
    | (refine ix_at rfl (by omega) ?_)
    | (refine ⟨⟨rfl, by omega, by omega⟩, ?_⟩)
    | (refine map_at (by omega) ?_)
    | (refine alen ?_)
    | (refine amin ?_)
    | (refine amax ?_)
    | (refine ⟨⟨rfl, rfl, by simp [V.ments]⟩, ?_⟩)
    | (refine map_at0 (by omega) ?_)
    | (refine set_at rfl ?_)
    | (refine map_atI (by omega) ?_)
    | (refine map_atI0 (by omega) ?_)
    | (refine set_atI rfl ?_)
    | (refine ⟨⟨by decide, rfl, by omega, by omega, by omega, by dsimp only; omega⟩, ?_⟩)
    | (refine arem (by omega) ?_)
    | (refine aquo (by omega) (by omega) ?_)
    | (refine au8 ?_)
    | (refine au64 (by omega) ?_)
    | (refine anat ?_)
    | (refine szOk rfl ?_)
    | (refine dvOk rfl (by omega) ?_)
    | (refine nzOk (by decide) ?_)
    | (refine lgOk (by kernel_rfl) ?_)
    | (refine kpOk (by kernel_rfl) ?_)
    | fail)
  all_goals conv => whnf
  all_goals
    have h11 := ints_all ho
    exact hK' _ _ _ _ _ _ _ _ _ _ _ _ _ (hc'.up (by omega)) (by unfold I64 at *; omega)
theorem DrawOpBytes.ac (D : List Int) (hd : Bytes D) (hl : D.length ≤ 1048576) {K : V → List Obj → List Obj → Prop} (hK : ∀ o : OpR, o.ints → K (encOp o) [] []) : AC Try.prog 41 [.is 1 (D.map encB)] [] K := by
  refine ac_body (ann []) [((997, 0), true), ((4, 0), true), ((7, 0), true)] hm htt Try.func41 rfl (by kernel_rfl) rfl rfl ?_
  repeat' ((conv => whnf); first
    | (refine l01Open.ac D hd hl fun s hc => ?_)
    | (refine conf.ac D _ _ _ ‹_› (by omega) fun c p' s' hc' hs => ?_)
    | (refine badOp.ac D _ _ _ c ‹_› (by omega) (by omega) fun o p' s' hc' ho => ?_)
    | (refine bF_dec (fun _ => ?_) (fun _ => ?_) <;> try (exfalso; omega))
    | (refine bF_eq (fun _ => ?_) (fun _ => ?_) <;> try (exfalso; omega))
    | (refine bF_ne (fun _ => ?_) (fun _ => ?_) <;> try (exfalso; omega))
    | (refine a64 (by omega) ?_)
    | (refine ix_at rfl (by omega) ?_)
    | (refine ⟨⟨rfl, by omega, by omega⟩, ?_⟩)
    | (refine map_at (by omega) ?_)
    | (refine alen ?_)
    | (refine amin ?_)
    | (refine amax ?_)
    | (refine ⟨⟨rfl, rfl, by simp [V.ments]⟩, ?_⟩)
    | (refine map_at0 (by omega) ?_)
    | (refine set_at rfl ?_)
    | (refine map_atI (by omega) ?_)
    | (refine map_atI0 (by omega) ?_)
    | (refine set_atI rfl ?_)
    | (refine ⟨⟨by decide, rfl, by omega, by omega, by omega, by dsimp only; omega⟩, ?_⟩)
    | (refine arem (by omega) ?_)
    | (refine aquo (by omega) (by omega) ?_)
    | (refine au8 ?_)
    | (refine au64 (by omega) ?_)
    | (refine anat ?_)
    | (refine szOk rfl ?_)
    | (refine dvOk rfl (by omega) ?_)
    | (refine nzOk (by decide) ?_)
    | (refine lgOk (by kernel_rfl) ?_)
    | (refine kpOk (by kernel_rfl) ?_)
    | fail)
  all_goals conv => whnf
  all_goals exact hK o ho
end Go.Eng.T

namespace Go.Eng.T
open Go.Proofs Go.Eng Go.Eng.S
set_option maxRecDepth 100000
set_option maxHeartbeats 0

theorem rec_self {o : OpR} (h : o.good) {ops : List OpR} (hr : LogR (recB (opB o)) ops) : ops = [o] := by
  have e : logB [o] = recB (opB o) := by simp [logB]
  have := logR_self (ops := [o]) (fun p hp => by rw [List.mem_singleton.1 hp]; exact h) (by simp)
  rw [e] at this
  exact logR_unique hr this
/-- A record with one changed byte is no log of its length. -/
theorem rec_changed {o : OpR} (h : o.good) {p : Nat} {x : Int} (hp : p < (recB (opB o)).length) (hx : (recB (opB o)).getD p default ≠ x) {ops : List OpR} (hr : LogR ((recB (opB o)).set p x) ops) : (logB ops).length ≠ (recB (opB o)).length := by
  intro e
  have hl : ((recB (opB o)).set p x).length = (recB (opB o)).length := by simp
  have hpre := hr.pre
  rw [List.take_of_length_le (by omega)] at hpre
  have hlen := recB_len (d := opB o)
  cases ops with
  | nil => simp only [logB, List.length_nil] at e; omega
  | cons q r =>
    have hq : ((recB (opB o)).set p x).take (recB (opB q)).length = recB (opB q) := by
      rw [hpre, logB, List.take_left]
    have hS : (recB (opB o)).take (recB (opB o)).length = recB (opB o) := List.take_length
    obtain rfl := rec_near h (hr.good q List.mem_cons_self) near_set hS hq
    rw [logB, List.length_append] at e
    have h0 : logB r = [] := List.eq_nil_of_length_eq_zero (by omega)
    rw [logB, h0, List.append_nil] at hpre
    have := congrArg (fun l => l.getD p default) hpre
    simp only [List.getD_eq_getElem?_getD, List.getElem?_set_self hp] at this hx
    exact hx this.symm
theorem logRead.ch {o : OpR} (h : o.good) {p : Nat} {x : Int} (hp : p < (recB (opB o)).length) (hx : (recB (opB o)).getD p default ≠ x) (hx2 : 0 ≤ x ∧ x ≤ 255) {K : V → List Obj → List Obj → Prop}
    (hK : ∀ ops : List OpR, (logB ops).length ≠ (recB (opB o)).length → K (.tup [.ls (1, 0) 11 0 ops.length, iv (logB ops).length]) [rowB ((recB (opB o)).set p x)] [rowO ops]) : AC Try.prog 45 [.ls (0, 0) 1 0 (recB (opB o)).length] [rowB ((recB (opB o)).set p x)] K := by
  have bl := opB_len (o := o)
  have rl := recB_len (d := opB o)
  have hb : Bytes (recB (opB o)) := recB_bytes (opB_bytes h.2) (by omega)
  have key := AC.row (P := Try.prog) (f := 45) (d := (recB (opB o)).set p x) no_xs (LogReadI.ac _ (bytes_set hb hx2) (by rw [List.length_set]; omega) (K := fun v q n => (v.noIs = true ∧ noIsO q = true ∧ noIsO n = true) ∧ K v (q ++ [rowB ((recB (opB o)).set p x)]) n)
    fun ops hr => ⟨⟨rfl, rfl, noIs_rowO _⟩, hK ops (rec_changed h hp hx hr)⟩)
  rwa [List.length_set] at key
theorem FnRecordTold.ac (D : List Int) (hd : Bytes D) {K : V → List Obj → List Obj → Prop} (hK : K (bv true) [] []) : AC Try.prog 9 [.is 1 (D.map encB)] [] K := by
  refine ac_body (ann []) [((997, 0), true), ((5, 0), true), ((20, 0), false), ((24, 0), false), ((25, 0), false), ((31, 0), false), ((32, 0), false), ((53, 0), false)] hm htt Try.func9 rfl (by kernel_rfl) rfl rfl ?_
  repeat' ((conv => whnf); first
    | (refine big2 D (fun _ => ?_) (fun _ => ?_))
    | (refine DrawOpBytes.ac D hd (by omega) fun o ho => ?_)
    | (refine bF_dec (fun _ => ?_) (fun _ => ?_) <;> try (exfalso; omega))
    | (refine bF_eq (fun _ => ?_) (fun _ => ?_) <;> try (exfalso; omega))
    | (refine bF_ne (fun _ => ?_) (fun _ => ?_) <;> try (exfalso; omega))
    | (refine a64 (by omega) ?_)
    | (refine ix_at rfl (by omega) ?_)
    | (refine ⟨⟨rfl, by omega, by omega⟩, ?_⟩)
    | (refine map_at (by omega) ?_)
    | (refine alen ?_)
    | (refine amin ?_)
    | (refine amax ?_)
    | (refine ⟨⟨rfl, rfl, by simp [V.ments]⟩, ?_⟩)
    | (refine map_at0 (by omega) ?_)
    | (refine set_at rfl ?_)
    | (refine map_atI (by omega) ?_)
    | (refine map_atI0 (by omega) ?_)
    | (refine set_atI rfl ?_)
    | (refine ⟨⟨by decide, rfl, by omega, by omega, by omega, by dsimp only; omega⟩, ?_⟩)
    | (refine arem (by omega) ?_)
    | (refine aquo (by omega) (by omega) ?_)
    | (refine au8 ?_)
    | (refine au64 (by omega) ?_)
    | (refine anat ?_)
    | (refine szOk rfl ?_)
    | (refine dvOk rfl (by omega) ?_)
    | (refine nzOk (by decide) ?_)
    | (refine lgOk (by kernel_rfl) ?_)
    | (refine kpOk (by kernel_rfl) ?_)
    | fail)
  all_goals conv => whnf
  · exact hK
  by_cases hk : o.ok
  rotate_left
  · repeat' ((conv => whnf); first
      | (refine OpOkS2 o (fun h => absurd h hk) (fun _ => ?_))
      | (refine OpBytesI.ac o ho (fun h => absurd h hk) (fun _ => ?_))
      | (refine bF_dec (fun _ => ?_) (fun _ => ?_) <;> try (exfalso; omega))
      | (refine bF_eq (fun _ => ?_) (fun _ => ?_) <;> try (exfalso; omega))
      | (refine bF_ne (fun _ => ?_) (fun _ => ?_) <;> try (exfalso; omega))
      | (refine a64 (by omega) ?_)
      | (refine ix_at rfl (by omega) ?_)
      | (refine ⟨⟨rfl, by omega, by omega⟩, ?_⟩)
      | (refine map_at (by omega) ?_)
      | (refine alen ?_)
      | (refine amin ?_)
      | (refine amax ?_)
      | (refine ⟨⟨rfl, rfl, by simp [V.ments]⟩, ?_⟩)
      | (refine map_at0 (by omega) ?_)
      | (refine set_at rfl ?_)
      | (refine map_atI (by omega) ?_)
      | (refine map_atI0 (by omega) ?_)
      | (refine set_atI rfl ?_)
      | (refine ⟨⟨by decide, rfl, by omega, by omega, by omega, by dsimp only; omega⟩, ?_⟩)
      | (refine arem (by omega) ?_)
      | (refine aquo (by omega) (by omega) ?_)
      | (refine au8 ?_)
      | (refine au64 (by omega) ?_)
      | (refine anat ?_)
      | (refine szOk rfl ?_)
      | (refine dvOk rfl (by omega) ?_)
      | (refine nzOk (by decide) ?_)
      | (refine lgOk (by kernel_rfl) ?_)
      | (refine kpOk (by kernel_rfl) ?_)
      | fail)
    all_goals conv => whnf
    exact hK
  have hg : o.good := ⟨hk, ho⟩
  have bl := opB_len (o := o)
  have b0 : 1 ≤ (opB o).length := by
    obtain ⟨P, b, e, _⟩ := numB_chain (ho o.k (by simp [OpR.fs]))
    have e2 : opB o = numB o.k ++ catB [o.eS, o.eK, o.eV, o.eT, o.pS, o.pB, o.pK, o.pL, o.s, o.n] := rfl
    rw [e2, e, List.length_append, List.length_append]; simp; omega
  have rl := recB_len (d := opB o)
  have hb : Bytes (recB (opB o)) := recB_bytes (opB_bytes ho) (by omega)
  repeat' ((conv => whnf); first
    | (refine OpOkS2 o (fun _ => ?_) (fun h => absurd hk h))
    | (refine OpBytesI.ac o ho (fun _ => ?_) (fun h => absurd hk h))
    | (refine AC.row no_xs (RecordOfI.ac _ (opB_bytes ho) (by omega) ⟨⟨rfl, rfl, noIs_rowB _⟩, ?_⟩))
    | (refine bytesOf.r _ (by omega) ?_)
    | (refine AC.row no_xs (LogReadI.ac _ hb (by omega) fun ops hr => ⟨⟨rfl, rfl, noIs_rowO _⟩, ?_⟩); obtain rfl := rec_self hg hr)
    | (refine lpick.ac D hd (by omega) _ _ (by omega) fun r _ _ => ?_)
    | (refine bF_dec (fun _ => ?_) (fun _ => ?_) <;> try (exfalso; omega))
    | (refine bF_eq (fun _ => ?_) (fun _ => ?_) <;> try (exfalso; omega))
    | (refine bF_ne (fun _ => ?_) (fun _ => ?_) <;> try (exfalso; omega))
    | (refine a64 (by omega) ?_)
    | (refine ix_at rfl (by omega) ?_)
    | (refine ⟨⟨rfl, by omega, by omega⟩, ?_⟩)
    | (refine map_at (by omega) ?_)
    | (refine alen ?_)
    | (refine amin ?_)
    | (refine amax ?_)
    | (refine ⟨⟨rfl, rfl, by simp [V.ments]⟩, ?_⟩)
    | (refine map_at0 (by omega) ?_)
    | (refine set_at rfl ?_)
    | (refine map_atI (by omega) ?_)
    | (refine map_atI0 (by omega) ?_)
    | (refine set_atI rfl ?_)
    | (refine ⟨⟨by decide, rfl, by omega, by omega, by omega, by dsimp only; omega⟩, ?_⟩)
    | (refine arem (by omega) ?_)
    | (refine aquo (by omega) (by omega) ?_)
    | (refine au8 ?_)
    | (refine au64 (by omega) ?_)
    | (refine anat ?_)
    | (refine szOk rfl ?_)
    | (refine dvOk rfl (by omega) ?_)
    | (refine nzOk (by decide) ?_)
    | (refine lgOk (by kernel_rfl) ?_)
    | (refine kpOk (by kernel_rfl) ?_)
    | fail)
  all_goals conv => whnf
  have hlen1 : (logB [o]).length = (recB (opB o)).length := by simp [logB]
  refine logRead.ch hg (by show Int.toNat _ < _; omega) (by show (recB (opB o)).getD (Int.toNat _) default ≠ _; rw [Nat.zero_add]; exact byte_change (hb.get _) (by omega)) (by omega) fun ops hne => ?_
  repeat' ((conv => whnf); first
    | (refine bF_dec (fun _ => ?_) (fun _ => ?_) <;> try (exfalso; omega))
    | (refine bF_eq (fun _ => ?_) (fun _ => ?_) <;> try (exfalso; omega))
    | (refine bF_ne (fun _ => ?_) (fun _ => ?_) <;> try (exfalso; omega))
    | (refine a64 (by omega) ?_)
    | (refine ix_at rfl (by omega) ?_)
    | (refine ⟨⟨rfl, by omega, by omega⟩, ?_⟩)
    | (refine map_at (by omega) ?_)
    | (refine alen ?_)
    | (refine amin ?_)
    | (refine amax ?_)
    | (refine ⟨⟨rfl, rfl, by simp [V.ments]⟩, ?_⟩)
    | (refine map_at0 (by omega) ?_)
    | (refine set_at rfl ?_)
    | (refine map_atI (by omega) ?_)
    | (refine map_atI0 (by omega) ?_)
    | (refine set_atI rfl ?_)
    | (refine ⟨⟨by decide, rfl, by omega, by omega, by omega, by dsimp only; omega⟩, ?_⟩)
    | (refine arem (by omega) ?_)
    | (refine aquo (by omega) (by omega) ?_)
    | (refine au8 ?_)
    | (refine au64 (by omega) ?_)
    | (refine anat ?_)
    | (refine szOk rfl ?_)
    | (refine dvOk rfl (by omega) ?_)
    | (refine nzOk (by decide) ?_)
    | (refine lgOk (by kernel_rfl) ?_)
    | (refine kpOk (by kernel_rfl) ?_)
    | fail)
  all_goals conv => whnf
  exact hK
end Go.Eng.T
