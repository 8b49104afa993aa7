import Derived.Test.YtpfmaiiolifblaaXPnS2
import Derived.Test.YtpfmaiiolifblaaXBxS
namespace Go.Eng.T
open Go.Proofs Go.Eng
set_option maxRecDepth 100000
set_option maxHeartbeats 0

theorem size.ac (D : List Int) (k p s n : Int) (hc : CurI D k p s) (hk : k ≤ 900000) (hn : 0 ≤ n ∧ n ≤ 1000) {K : V → List Obj → List Obj → Prop} (hK : ∀ r p' s', CurI D (k + 1) p' s' → 0 ≤ r → r ≤ n → K (iv r) [cur D p' s'] []) : AC Try.prog 127 [.lp (0, 0) 3 0 0, iv n] [cur D p s] K := by
  have hl := hc.l
  have hlm : (D.map encB).length = D.length := List.length_map ..
  refine ac_body (ann []) [((997, 0), true), ((0, 0), true)] hm htt Try.func127 rfl (by kernel_rfl) rfl rfl ?_
  repeat' ((conv => whnf); first
    | (refine cpick.ac D _ _ _ _ ‹_› (by omega) fun r p' s' hc' _ _ => ?_)
    | (refine bF_dec (fun _ => ?_) (fun _ => ?_) <;> try (exfalso; omega))
    | (refine bF_eq (fun _ => ?_) (fun _ => ?_) <;> try (exfalso; omega))
    | (refine bF_ne (fun _ => ?_) (fun _ => ?_) <;> try (exfalso; omega))
    | (refine a64 (by omega) ?_)
    | (refine ix_at rfl (by omega) ?_)
    | (refine ⟨⟨rfl, by omega, by omega⟩, ?_⟩)
    | (refine map_at (by omega) ?_)
    | (refine alen ?_)
    | (refine amin ?_)
    | (refine amax ?_)
    | (refine ⟨⟨rfl, rfl, by simp [V.ments, mentsL]⟩, ?_⟩)
    | (refine map_at0 (by omega) ?_)
    | (refine set_at rfl ?_)
    | (refine map_atI (by omega) ?_)
    | (refine map_atI0 (by omega) ?_)
    | (refine set_atI rfl ?_)
    | (refine ⟨⟨by decide, rfl, by omega, by omega, by omega, by dsimp only; omega⟩, ?_⟩)
    | (refine arem (by omega) ?_)
    | (refine aquo (by omega) (by omega) ?_)
    | (refine au8 ?_)
    | (refine au64 (by omega) ?_)
    | (refine anat ?_)
    | (refine szOk rfl ?_)
    | (refine dvOk rfl (by omega) ?_)
    | (refine nzOk (by decide) ?_)
    | (refine lgOk (by kernel_rfl) ?_)
    | (refine kpOk (by kernel_rfl) ?_)
    | fail)
  all_goals conv => whnf
  exact hK _ _ _ hc' (by omega) (by omega)
theorem values.ac (D : List Int) (k p s : Int) (hc : CurI D k p s) (hk : k ≤ 800000) {K : V → List Obj → List Obj → Prop} (hK : ∀ (l : List Int) p' s', CurI D (k + 50) p' s' → l.length ≤ 9 → Ints l → K (.ls (1, 0) 1 0 l.length) [cur D p' s'] [rowI l]) : AC Try.prog 152 [.lp (0, 0) 3 0 0] [cur D p s] K := by
  refine ac_body (annW [] [(3, [0, 3, 4], [(0, 0), (7, 1)])] [(3, (7, 1), [7, 29])]) [((997, 0), true), ((0, 0), true), ((7, 0), false), ((7, 1), false), ((23, 0), false), ((28, 0), true), ((29, 0), false)] hm htt Try.func152 rfl (by kernel_rfl) rfl rfl ?_
  repeat' ((conv => whnf); first
    | (refine size.ac D _ _ _ _ ‹_› (by omega) (by omega) fun r p' s' hc' _ _ => ?_)
    | (refine cpick.ac D _ _ _ _ ‹_› (by omega) fun r p' s' hc' _ _ => ?_)
    | (refine once.ac D _ _ _ _ ‹_› (by omega) (by omega) fun b p' s' hc' => ?_; cases b)
    | (refine raw.ac D _ _ _ ‹_› (by omega) fun r p' s' hc' _ _ => ?_)
    | (refine pickI2 rfl (by omega) fun x _ => ?_)
    | (refine pickI3 rfl (by omega) fun x _ => ?_)
    | (refine pickI4 rfl (by omega) fun x _ => ?_)
    | (refine pickI5 rfl (by omega) fun x _ => ?_)
    | (refine bF_dec (fun _ => ?_) (fun _ => ?_) <;> try (exfalso; omega))
    | (refine bF_eq (fun _ => ?_) (fun _ => ?_) <;> try (exfalso; omega))
    | (refine bF_ne (fun _ => ?_) (fun _ => ?_) <;> try (exfalso; omega))
    | (refine a64 (by omega) ?_)
    | (refine ix_at rfl (by omega) ?_)
    | (refine ⟨⟨rfl, by omega, by omega⟩, ?_⟩)
    | (refine map_at (by omega) ?_)
    | (refine alen ?_)
    | (refine amin ?_)
    | (refine amax ?_)
    | (refine ⟨⟨rfl, rfl, by simp [V.ments, mentsL]⟩, ?_⟩)
    | (refine map_at0 (by omega) ?_)
    | (refine set_at rfl ?_)
    | (refine map_atI (by omega) ?_)
    | (refine map_atI0 (by omega) ?_)
    | (refine set_atI rfl ?_)
    | (refine ⟨⟨by decide, rfl, by omega, by omega, by omega, by dsimp only; omega⟩, ?_⟩)
    | (refine arem (by omega) ?_)
    | (refine aquo (by omega) (by omega) ?_)
    | (refine au8 ?_)
    | (refine au64 (by omega) ?_)
    | (refine anat ?_)
    | (refine szOk rfl ?_)
    | (refine dvOk rfl (by omega) ?_)
    | (refine nzOk (by decide) ?_)
    | (refine lgOk (by kernel_rfl) ?_)
    | (refine kpOk (by kernel_rfl) ?_)
    | fail)
  all_goals conv => whnf
  refine cwF_loop (fun m st => ∃ (z p s : Int) (l : List Int), (m = z.toNat ∧ 0 ≤ z ∧ (l.length : Int) + z ≤ 9 ∧ CurI D (k + 1 + 5 * l.length) p s ∧ Ints l) ∧
    st = ⟨[.lp (0, 0) 3 0 0, .un, .un, .ls (7, 1) 1 0 l.length, iv z] ++ List.replicate 24 .un, mkOb [((0, 0), some (cur D p s)), ((7, 1), some (rowI l))]⟩) r.toNat (by kernel_rfl) ⟨r, _, _, [], ⟨rfl, by omega, by simp; omega, hc'.up (by simp), Ints.nil⟩, rfl⟩ ?_
  rintro m st ⟨z, p, s, l, ⟨rfl, z0, z1, hcz, hl⟩, rfl⟩
  repeat' ((conv => whnf); first
    | (refine app1 (f := iv) ⟨by decide, rfl, rfl, by simp, ⟨by simp; omega, by simp; omega⟩, rfl, by simp [mentsOne]⟩ rfl ?_)
    | (refine cpick.ac D _ _ _ _ ‹_› (by omega) fun r p' s' hc' _ _ => ?_)
    | (refine once.ac D _ _ _ _ ‹_› (by omega) (by omega) fun b p' s' hc' => ?_; cases b)
    | (refine raw.ac D _ _ _ ‹_› (by omega) fun r p' s' hc' _ _ => ?_)
    | (refine pickI2 rfl (by omega) fun x _ => ?_)
    | (refine pickI3 rfl (by omega) fun x _ => ?_)
    | (refine pickI4 rfl (by omega) fun x _ => ?_)
    | (refine pickI5 rfl (by omega) fun x _ => ?_)
    | (refine bF_dec (fun _ => ?_) (fun _ => ?_) <;> try (exfalso; omega))
    | (refine bF_eq (fun _ => ?_) (fun _ => ?_) <;> try (exfalso; omega))
    | (refine bF_ne (fun _ => ?_) (fun _ => ?_) <;> try (exfalso; omega))
    | (refine a64 (by omega) ?_)
    | (refine ix_at rfl (by omega) ?_)
    | (refine ⟨⟨rfl, by omega, by omega⟩, ?_⟩)
    | (refine map_at (by omega) ?_)
    | (refine alen ?_)
    | (refine amin ?_)
    | (refine amax ?_)
    | (refine ⟨⟨rfl, rfl, by simp [V.ments, mentsL]⟩, ?_⟩)
    | (refine map_at0 (by omega) ?_)
    | (refine set_at rfl ?_)
    | (refine map_atI (by omega) ?_)
    | (refine map_atI0 (by omega) ?_)
    | (refine set_atI rfl ?_)
    | (refine ⟨⟨by decide, rfl, by omega, by omega, by omega, by dsimp only; omega⟩, ?_⟩)
    | (refine arem (by omega) ?_)
    | (refine aquo (by omega) (by omega) ?_)
    | (refine au8 ?_)
    | (refine au64 (by omega) ?_)
    | (refine anat ?_)
    | (refine szOk rfl ?_)
    | (refine dvOk rfl (by omega) ?_)
    | (refine nzOk (by decide) ?_)
    | (refine lgOk (by kernel_rfl) ?_)
    | (refine kpOk (by kernel_rfl) ?_)
    | fail)
  all_goals conv => whnf
  · exact ⟨(z - 1).toNat, by omega, _, _, _, _, ⟨rfl, by omega, by simp; omega, ‹CurI D (k + 1 + 5 * ↑l.length + 1 + 1 + 2 + 1) _ _›.up (by simp; omega), hl.snoc (by unfold I64; omega)⟩, rfl⟩
  · exact hK l _ _ (hcz.up (by omega)) (by omega) hl
theorem oneWin.ac (D : List Int) (k p s : Int) (hc : CurI D k p s) (hk : k ≤ 800000) {K : V → List Obj → List Obj → Prop} (hK : ∀ a b p' s', CurI D (k + 8) p' s' → I64 a → I64 b → K (.agg [iv a, iv b]) [cur D p' s'] []) : AC Try.prog 153 [.lp (0, 0) 3 0 0] [cur D p s] K := by
  refine ac_body (ann []) [((997, 0), true), ((0, 0), true), ((4, 0), true), ((6, 0), true), ((29, 0), false)] hm htt Try.func153 rfl (by kernel_rfl) rfl rfl ?_
  repeat' ((conv => whnf); first
    | (refine cpick.ac D _ _ _ _ ‹_› (by omega) fun r p' s' hc' _ _ => ?_)
    | (refine once.ac D _ _ _ _ ‹_› (by omega) (by omega) fun b p' s' hc' => ?_; cases b)
    | (refine raw.ac D _ _ _ ‹_› (by omega) fun r p' s' hc' _ _ => ?_)
    | (refine pickI2 rfl (by omega) fun x _ => ?_)
    | (refine pickI3 rfl (by omega) fun x _ => ?_)
    | (refine pickI4 rfl (by omega) fun x _ => ?_)
    | (refine pickI5 rfl (by omega) fun x _ => ?_)
    | (refine bF_dec (fun _ => ?_) (fun _ => ?_) <;> try (exfalso; omega))
    | (refine bF_eq (fun _ => ?_) (fun _ => ?_) <;> try (exfalso; omega))
    | (refine bF_ne (fun _ => ?_) (fun _ => ?_) <;> try (exfalso; omega))
    | (refine a64 (by omega) ?_)
    | (refine ix_at rfl (by omega) ?_)
    | (refine ⟨⟨rfl, by omega, by omega⟩, ?_⟩)
    | (refine map_at (by omega) ?_)
    | (refine alen ?_)
    | (refine amin ?_)
    | (refine amax ?_)
    | (refine ⟨⟨rfl, rfl, by simp [V.ments, mentsL]⟩, ?_⟩)
    | (refine map_at0 (by omega) ?_)
    | (refine set_at rfl ?_)
    | (refine map_atI (by omega) ?_)
    | (refine map_atI0 (by omega) ?_)
    | (refine set_atI rfl ?_)
    | (refine ⟨⟨by decide, rfl, by omega, by omega, by omega, by dsimp only; omega⟩, ?_⟩)
    | (refine arem (by omega) ?_)
    | (refine aquo (by omega) (by omega) ?_)
    | (refine au8 ?_)
    | (refine au64 (by omega) ?_)
    | (refine anat ?_)
    | (refine szOk rfl ?_)
    | (refine dvOk rfl (by omega) ?_)
    | (refine nzOk (by decide) ?_)
    | (refine lgOk (by kernel_rfl) ?_)
    | (refine kpOk (by kernel_rfl) ?_)
    | fail)
  all_goals conv => whnf
  all_goals exact hK _ _ _ _ (hc'.up (by omega)) (by unfold I64; omega) (by unfold I64; omega)
end Go.Eng.T

namespace Go.Eng.T
open Go.Proofs Go.Eng
set_option maxRecDepth 100000
set_option maxHeartbeats 0

theorem sumR {l : List Int} (h : Ints l) (hl : l.length ≤ 100000) : R127 (sumL l) := by
  have h1 := sum_le (l := l) (m := 9223372036854775807) fun x hx => (h x hx).2
  have h2 := le_sum (l := l) (m := -9223372036854775808) fun x hx => (h x hx).1
  unfold R127; omega
theorem AggOfS.gen (l : List Int) (hi : Ints l) (hn : l ≠ []) (hl : l.length ≤ 100000) {K : V → List Obj → List Obj → Prop} (hK : ∀ n s mn mx top, (I64 n ∧ I64 mn ∧ I64 mx) → R127 s → Ints top → top.length ≤ 4 → K (.agg [iv n, iv (whi s), uv (wlo s), iv mn, iv mx, .is 1 (top.map iv)]) [] []) : AC Try.prog 56 [.is 1 (l.map iv)] [] K :=
  AggOfS.ac l hi hl (fun h => absurd h hn) fun _ => hK _ _ _ _ _ ⟨by unfold I64; dsimp only [agOf]; omega, hi _ (minL_mem hn), hi _ (maxL_mem hn)⟩ (sumR hi hl) (fun x hx => hi x ((sd_perm l).mem_iff.1 (List.mem_of_mem_take hx))) (by show (top4 l).length ≤ 4; rw [top4_length]; omega)
theorem PaneOfS.gen (id key f t lab : Int) (q : QueryR) (n s mn mx : Int) (top : List Int) (hq : QueryI q) (hi : I64 id ∧ I64 key ∧ I64 f ∧ I64 t ∧ I64 lab) (hn : I64 n ∧ I64 mn ∧ I64 mx) (hs : R127 s) (ht : Ints top) (htl : top.length ≤ 4) {K : V → List Obj → List Obj → Prop}
    (hK : ∀ q k f t l n v o ok, (I64 q ∧ I64 k ∧ I64 f ∧ I64 t ∧ I64 l ∧ I64 n) → Ints v → v.length ≤ 4 → K (.tup [pn8 q k f t l n (.is 1 (v.map iv)) o, bv ok]) [] []) : AC Try.prog 154 [iv id, encQ q, iv key, .agg [iv f, iv t], iv lab, .agg [iv n, iv (whi s), uv (wlo s), iv mn, iv mx, .is 1 (top.map iv)]] [] K :=
  PaneOfS.ac id key f t lab q n s mn mx top hq hi hn.1 hs hn.2.1 hn.2.2 ht (by omega) fun p ok h => hK _ _ _ _ _ _ _ _ _ ⟨h.q, h.k, h.f, h.t, h.l, h.n⟩ h.v h.len
theorem pane8 (D : List Int) (k p s : Int) (hc : CurI D k p s) (hk : k ≤ 500000) {K : V → List Obj → List Obj → Prop} (hK : ∀ q k' f t l n v o p' s', CurI D (k + 300) p' s' → (I64 q ∧ I64 k' ∧ I64 f ∧ I64 t ∧ I64 l ∧ I64 n) → Ints v → v.length ≤ 4 → K (pn8 q k' f t l n (.is 1 (v.map iv)) o) [cur D p' s'] []) : AC Try.prog 78 [.lp (0, 0) 3 0 0] [cur D p s] K := by
  refine ac_body (annI [(56, [0])] []) [((997, 0), true), ((0, 0), true), ((4, 0), true), ((10, 0), false), ((11, 0), true), ((12, 0), false), ((5, 0), true), ((6, 0), true), ((7, 0), true), ((36, 0), false), ((46, 0), false), ((62, 0), false)] hm htt Try.func78 rfl (by kernel_rfl) rfl rfl ?_
  repeat' ((conv => whnf); first
    | (refine values.ac D _ _ _ ‹_› (by omega) fun lv p' s' hc' hvl hvi => ?_)
    | (refine all_at (f := iv) (l := lv ++ [1]) ⟨rfl, by simp⟩ ?_)
    | (refine app1 (f := iv) (x := 1) ⟨by decide, rfl, rfl, by simp, ⟨by simp; omega, by simp; omega⟩, rfl, by simp [mentsOne]⟩ rfl ?_)
    | (refine AggOfS.gen (lv ++ [1]) (hvi.snoc (by unfold I64; omega)) (by simp) (by simp; omega) fun n sm mn mx top hnn hsm htop htl => ?_)
    | (refine oneWin.ac D _ _ _ ‹_› (by omega) fun wf wt p' s' hc' hwf hwt => ?_)
    | (refine query.ac D _ _ _ ‹_› (by omega) fun qq p' s' hc' hqq => ?_)
    | (refine PaneOfS.gen _ _ _ _ _ qq _ sm _ _ top hqq ⟨by unfold I64; omega, by unfold I64; omega, hwf, hwt, by unfold I64; omega⟩ hnn hsm htop htl fun pq pk pf pt pl pn pv po ok hp hpv hpl => ?_)
    | (refine cpick.ac D _ _ _ _ ‹_› (by omega) fun r p' s' hc' _ _ => ?_)
    | (refine once.ac D _ _ _ _ ‹_› (by omega) (by omega) fun b p' s' hc' => ?_; cases b)
    | (refine raw.ac D _ _ _ ‹_› (by omega) fun r p' s' hc' _ _ => ?_)
    | (refine pickI2 rfl (by omega) fun x _ => ?_)
    | (refine pickI3 rfl (by omega) fun x _ => ?_)
    | (refine pickI4 rfl (by omega) fun x _ => ?_)
    | (refine pickI5 rfl (by omega) fun x _ => ?_)
    | (refine bF_dec (fun _ => ?_) (fun _ => ?_) <;> try (exfalso; omega))
    | (refine bF_eq (fun _ => ?_) (fun _ => ?_) <;> try (exfalso; omega))
    | (refine bF_ne (fun _ => ?_) (fun _ => ?_) <;> try (exfalso; omega))
    | (refine a64 (by omega) ?_)
    | (refine ix_at rfl (by omega) ?_)
    | (refine ⟨⟨rfl, by omega, by omega⟩, ?_⟩)
    | (refine map_at (by omega) ?_)
    | (refine alen ?_)
    | (refine amin ?_)
    | (refine amax ?_)
    | (refine ⟨⟨rfl, rfl, by simp [V.ments, mentsL]⟩, ?_⟩)
    | (refine map_at0 (by omega) ?_)
    | (refine set_at rfl ?_)
    | (refine map_atI (by omega) ?_)
    | (refine map_atI0 (by omega) ?_)
    | (refine set_atI rfl ?_)
    | (refine ⟨⟨by decide, rfl, by omega, by omega, by omega, by dsimp only; omega⟩, ?_⟩)
    | (refine arem (by omega) ?_)
    | (refine aquo (by omega) (by omega) ?_)
    | (refine au8 ?_)
    | (refine au64 (by omega) ?_)
    | (refine anat ?_)
    | (refine szOk rfl ?_)
    | (refine dvOk rfl (by omega) ?_)
    | (refine nzOk (by decide) ?_)
    | (refine lgOk (by kernel_rfl) ?_)
    | (refine kpOk (by kernel_rfl) ?_)
    | fail)
  all_goals conv => whnf
  all_goals exact hK _ _ _ _ _ _ _ _ _ _ (hc'.up (by omega)) (by unfold I64 at *; omega) hpv hpl
theorem pane.ac (D : List Int) (k p s : Int) (hc : CurI D k p s) (hk : k ≤ 500000) {K : V → List Obj → List Obj → Prop} (hK : ∀ (x : Pn) p' s', CurI D (k + 300) p' s' → PnI x → K (encPn x) [cur D p' s'] []) : AC Try.prog 78 [.lp (0, 0) 3 0 0] [cur D p s] K :=
  pane8 D k p s hc hk fun q k' f t l n v o p' s' h1 h2 h3 h4 => hK ⟨q, k', f, t, l, n, v, o⟩ p' s' h1 (PnI.of h2 h3 h4)
end Go.Eng.T

namespace Go.Eng.T
open Go.Proofs Go.Eng
set_option maxRecDepth 100000
set_option maxHeartbeats 0

theorem fullPane.ac (D : List Int) (k p s : Int) (hc : CurI D k p s) (hk : k ≤ 400000) {K : V → List Obj → List Obj → Prop} (hK : ∀ (x : Pn) p' s', CurI D (k + 310) p' s' → PnI x → PnOk x → K (encPn x) [cur D p' s'] []) : AC Try.prog 76 [.lp (0, 0) 3 0 0] [cur D p s] K := by
  refine AC.frzO ?_
  refine ac_body (ann []) [((997, 0), true), ((0, 0), true), ((4, 0), true), ((5, 0), true), ((13, 0), false)] hm htt Try.func76 rfl (by kernel_rfl) rfl rfl ?_
  repeat' ((conv => whnf); first
    | (refine pane.ac D _ _ _ ‹_› (by omega) fun x p' s' hc' hx => ?_)
    | (refine PaneOk2 x (fun _ => ?_) (fun _ => ?_))
    | (refine cpick.ac D _ _ _ _ ‹_› (by omega) fun r p' s' hc' _ _ => ?_)
    | (refine once.ac D _ _ _ _ ‹_› (by omega) (by omega) fun b p' s' hc' => ?_; cases b)
    | (refine raw.ac D _ _ _ ‹_› (by omega) fun r p' s' hc' _ _ => ?_)
    | (refine pickI2 rfl (by omega) fun x _ => ?_)
    | (refine pickI3 rfl (by omega) fun x _ => ?_)
    | (refine pickI4 rfl (by omega) fun x _ => ?_)
    | (refine pickI5 rfl (by omega) fun x _ => ?_)
    | (refine bF_dec (fun _ => ?_) (fun _ => ?_) <;> try (exfalso; omega))
    | (refine bF_eq (fun _ => ?_) (fun _ => ?_) <;> try (exfalso; omega))
    | (refine bF_ne (fun _ => ?_) (fun _ => ?_) <;> try (exfalso; omega))
    | (refine a64 (by omega) ?_)
    | (refine ix_at rfl (by omega) ?_)
    | (refine ⟨⟨rfl, by omega, by omega⟩, ?_⟩)
    | (refine map_at (by omega) ?_)
    | (refine alen ?_)
    | (refine amin ?_)
    | (refine amax ?_)
    | (refine ⟨⟨rfl, rfl, by simp [V.ments, mentsL]⟩, ?_⟩)
    | (refine map_at0 (by omega) ?_)
    | (refine set_at rfl ?_)
    | (refine map_atI (by omega) ?_)
    | (refine map_atI0 (by omega) ?_)
    | (refine set_atI rfl ?_)
    | (refine ⟨⟨by decide, rfl, by omega, by omega, by omega, by dsimp only; omega⟩, ?_⟩)
    | (refine arem (by omega) ?_)
    | (refine aquo (by omega) (by omega) ?_)
    | (refine au8 ?_)
    | (refine au64 (by omega) ?_)
    | (refine anat ?_)
    | (refine szOk rfl ?_)
    | (refine dvOk rfl (by omega) ?_)
    | (refine nzOk (by decide) ?_)
    | (refine lgOk (by kernel_rfl) ?_)
    | (refine kpOk (by kernel_rfl) ?_)
    | fail)
  all_goals conv => whnf
  · exact .inr (hK x _ _ (hc'.up (by omega)) hx (by assumption))
  · exact .inl (frzPn (v := [_]) (by simp [V.ments]) cur_ments2 (hK ⟨0, 0, 0, 5, _, 1, [_], false⟩ _ _ (hc'.up (by omega)) (PnI.of (by unfold I64; omega) (Ints.one (by unfold I64; omega)) (by simp)) (by simp only [PnOk, WinI]; simp; omega)))
end Go.Eng.T
