import Derived.Test.YtpfmaiiolifblaaXPnS
namespace Go.Eng.T
open Go.Proofs Go.Eng
set_option maxRecDepth 100000
set_option maxHeartbeats 0

structure PnI (p : Pn) : Prop where
  q : I64 p.q
  k : I64 p.k
  f : I64 p.f
  t : I64 p.t
  l : I64 p.l
  n : I64 p.n
  v : Ints p.v
  len : p.v.length ≤ 4
theorem PnI.of {q k f t l n : Int} {v : List Int} {o : Bool} (h : (I64 q ∧ I64 k ∧ I64 f ∧ I64 t ∧ I64 l ∧ I64 n)) (hv : Ints v) (hl : v.length ≤ 4) : PnI ⟨q, k, f, t, l, n, v, o⟩ := ⟨h.1, h.2.1, h.2.2.1, h.2.2.2.1, h.2.2.2.2.1, h.2.2.2.2.2, hv, hl⟩
abbrev pn8 (q k f t l n : Int) (v : V) (o : Bool) : V := .agg [iv q, iv k, iv f, iv t, iv l, iv n, v, bv o]
theorem AggDoneS.weak (kind kk n s mn mx : Int) (top : List Int) (hn : I64 n) (hs : R127 s) (hmn : I64 mn) (hmx : I64 mx) (ht : Ints top) (htl : top.length ≤ 100000) (hkk : I64 kk) {K : V → List Obj → List Obj → Prop}
    (hK : ∀ (vs : List Int) (o : Bool), (Ints vs ∧ vs.length ≤ 4) → K (.tup [.is 1 (vs.map iv), bv o]) [] []) : AC Try.prog 59 [iv kind, iv kk, .agg [iv n, iv (whi s), uv (wlo s), iv mn, iv mx, .is 1 (top.map iv)]] [] K :=
  AggDoneS.ac kind kk n s mn mx top hn hs hmn hmx ht htl hkk fun vs o h1 h2 _ => hK vs o ⟨h1, h2⟩
theorem PaneOfS.ac (id key f t lab : Int) (q : QueryR) (n s mn mx : Int) (top : List Int) (hq : QueryI q) (hi : I64 id ∧ I64 key ∧ I64 f ∧ I64 t ∧ I64 lab) (hn : I64 n) (hs : R127 s) (hmn : I64 mn) (hmx : I64 mx) (ht : Ints top) (htl : top.length ≤ 100000) {K : V → List Obj → List Obj → Prop}
    (hK : ∀ (p : Pn) ok, PnI p → K (.tup [encPn p, bv ok]) [] []) : AC Try.prog 154 [iv id, encQ q, iv key, .agg [iv f, iv t], iv lab, .agg [iv n, iv (whi s), uv (wlo s), iv mn, iv mx, .is 1 (top.map iv)]] [] K := by
  refine AC.weak ?_
  have row : ∀ q k f t l n v o ok, (I64 q ∧ I64 k ∧ I64 f ∧ I64 t ∧ I64 l ∧ I64 n) → Ints v → v.length ≤ 4 → ∃ v', Wk (.tup [pn8 q k f t l n (.is 1 (v.map iv)) o, bv ok]) v' ∧ K v' [] [] := fun q k f t l n v o ok h1 h2 h3 => ⟨_, Wk.refl, hK ⟨q, k, f, t, l, n, v, o⟩ ok (PnI.of h1 h2 h3)⟩
  have non : ∀ ok, ∃ v', Wk (.tup [pn8 0 0 0 0 0 0 nilS false, bv ok]) v' ∧ K v' [] [] := fun ok =>
    ⟨_, Wk.tup (.cons (Wk.agg (.cons Wk.refl (.cons Wk.refl (.cons Wk.refl (.cons Wk.refl (.cons Wk.refl (.cons Wk.refl (.cons Wk.nil (.cons Wk.refl .nil))))))))) (.cons Wk.refl .nil)), hK ⟨0, 0, 0, 0, 0, 0, [], false⟩ ok (PnI.of (by unfold I64; omega) Ints.nil (by simp))⟩
  have c1 := hq.f.1
  have c2 := hq.m.1
  have c3 := hq.wk
  have c4 := hq.ws
  have c5 := hq.wt
  have c6 := hq.kk
  refine ac_body (ann []) [((997, 0), true), ((9, 0), true), ((11, 0), true), ((13, 0), true), ((14, 0), true), ((18, 0), true)] hm htt Try.func154 rfl (by kernel_rfl) rfl rfl ?_
  repeat' ((conv => whnf); first
    | (refine QueryOkS2 q (by omega) (by omega) (by unfold I64; omega) (by unfold I64; omega) (by unfold I64; omega) (fun _ => ?_) (fun _ => ?_))
    | (refine AggOkS2 _ s _ _ top hn hs hmn hmx ht htl (fun _ => ?_) (fun _ => ?_))
    | (refine AggDoneS.weak _ _ _ s _ _ top hn hs hmn hmx ht htl (by unfold I64; omega) fun vs o hv => ?_; cases o)
    | (refine PaneOk8 _ _ _ _ _ _ _ _ (fun _ => ?_) (fun _ => ?_))
    | (refine bF_dec (fun _ => ?_) (fun _ => ?_) <;> try (exfalso; omega))
    | (refine bF_eq (fun _ => ?_) (fun _ => ?_) <;> try (exfalso; omega))
    | (refine bF_ne (fun _ => ?_) (fun _ => ?_) <;> try (exfalso; omega))
    | (refine a64 (by omega) ?_)
    | (refine ix_at rfl (by omega) ?_)
    | (refine ⟨⟨rfl, by omega, by omega⟩, ?_⟩)
    | (refine map_at (by omega) ?_)
    | (refine alen ?_)
    | (refine amin ?_)
    | (refine amax ?_)
    | (refine ⟨⟨rfl, rfl, by simp [V.ments, mentsL]⟩, ?_⟩)
    | (refine map_at0 (by omega) ?_)
    | (refine set_at rfl ?_)
    | (refine map_atI (by omega) ?_)
    | (refine map_atI0 (by omega) ?_)
    | (refine set_atI rfl ?_)
    | (refine ⟨⟨by decide, rfl, by omega, by omega, by omega, by dsimp only; omega⟩, ?_⟩)
    | (refine arem (by omega) ?_)
    | (refine aquo (by omega) (by omega) ?_)
    | (refine au8 ?_)
    | (refine au64 (by omega) ?_)
    | (refine anat ?_)
    | (refine szOk rfl ?_)
    | (refine dvOk rfl (by omega) ?_)
    | (refine nzOk (by decide) ?_)
    | (refine lgOk (by kernel_rfl) ?_)
    | (refine kpOk (by kernel_rfl) ?_)
    | fail)
  all_goals conv => whnf
  all_goals first
    | exact non _
    | exact row _ _ _ _ _ _ _ _ _ ⟨hi.1, hi.2.1, hi.2.2.1, hi.2.2.2.1, hi.2.2.2.2, hn⟩ hv.1 hv.2
    | trace_state
end Go.Eng.T
