import Derived.Test.YtajekdeommaceaaXLP
import Derived.Test.YtajekdeommaceaaXL18
import Derived.Test.YtajekdeommaceaaXL20h
import Derived.Test.YtajekdeommaceaaXL23
namespace Go.Eng.T
open Go.Proofs Go.Eng
set_option maxRecDepth 100000
set_option maxHeartbeats 0

theorem size.ac (D : List Int) (k p s n : Int) (hk : k ≤ 1000000) (hn : 0 ≤ n ∧ n ≤ 1000) (hc : CurI D k p s) {K : V → List Obj → List Obj → Prop} (hK : ∀ r p' s', CurI D (k + 1) p' s' → 0 ≤ r → r ≤ n → K (iv r) [cur D p' s'] []) : AC Try.prog 103 [.lp (0,0) 3 0 0, iv n] [cur D p s] K := by
  have hl := hc.l
  have hml : (D.map encB).length = D.length := List.length_map ..
  refine ac_body (ann []) [((0, 0), true)] hm htt Try.func103 rfl (by kernel_rfl) rfl rfl ?_
  conv => whnf
  refine cpick.ac D k p s _ hk hc fun r p1 s1 hc1 r1 r2 => ?_
  conv => whnf
  have t1 : 0 ≤ ((D.map encB).length : Int).tdiv 8 ∧ ((D.map encB).length : Int).tdiv 8 ≤ (D.map encB).length := by
    rw [tdiv_e (by omega)]; omega
  have e1 := wrap_i64 (x := ((D.map encB).length : Int).tdiv 8) (by omega)
  have e2 := wrap_i64 (x := 1 + IntKind.i64.wrap (((D.map encB).length : Int).tdiv 8)) (by omega)
  refine hK r p1 s1 hc1 r1 ?_
  rcases r2 with r2 | r2
  · split at r2 <;> rw [wrap_i64 (by omega)] at r2 <;> omega
  · omega

theorem punct.ac (D : List Int) (k p s N : Int) (up : List Int) (hk : k ≤ 800000) (hc : CurI D k p s) {K : V → List Obj → List Obj → Prop}
    (hK : ∀ x p' s', CurI D (k + 10) p' s' → K (encP x) [cur D p' s', upO up] []) : AC Try.prog 72 [.lp (0,0) 3 0 0, .agg [iv N, .ls (0, 1) 1 0 up.length]] [cur D p s, upO up] K := by
  refine ac_body (ann []) [((998, 0), true), ((0, 0), true), ((0, 1), false), ((5, 0), true), ((6, 0), true), ((9, 0), true), ((37, 0), false), ((47, 0), false), ((59, 0), false)] hm htt Try.func72 rfl (by kernel_rfl) rfl rfl ?_
  conv => whnf
  refine cpick.ac D k p s 5 (by omega) hc fun b p1 s1 hc1 b1 b2 => ?_
  conv => whnf
  have e := wrap_i64 (x := 4 - b) (by omega)
  refine l04Pow.ac _ (by omega) ?_
  conv => whnf
  have pr := pow_range (n := (IntKind.i64.wrap (4 - b)).toNat) (by omega)
  repeat (refine ⟨by kernel_rfl, ?_⟩; conv => whnf)
  refine cpick.ac D (k + 1) p1 s1 3 (by omega) hc1 fun r2 p2 s2 hc2 _ _ => ?_
  conv => whnf
  repeat (refine ⟨by kernel_rfl, ?_⟩; conv => whnf)
  refine cpick.ac D (k + 1 + 1) p2 s2 16 (by omega) hc2 fun r3 p3 s3 hc3 _ _ => ?_
  conv => whnf
  refine ⟨⟨rfl, by omega⟩, ?_⟩
  conv => whnf
  repeat (refine ⟨by kernel_rfl, ?_⟩; conv => whnf)
  refine cpick.ac D (k + 1 + 1 + 1) p3 s3 _ (by omega) hc3 fun r4 p4 s4 hc4 _ _ => ?_
  conv => whnf
  repeat (refine ⟨by kernel_rfl, ?_⟩; conv => whnf)
  refine cpick.ac D (k + 1 + 1 + 1 + 1) p4 s4 16 (by omega) hc4 fun r5 p5 s5 hc5 _ _ => ?_
  conv => whnf
  have upk : ∀ {j p s}, j ≤ k + 10 → CurI D j p s → CurI D (k + 10) p s := fun h c => c.up h
  refine bF_eq (fun q0 => ?_) (fun q0 => ?_)
  · conv => whnf
    refine raw.ac D _ p5 s5 (by omega) hc5 fun r6 p6 s6 hc6 _ _ => ?_
    conv => whnf
    refine cpick.ac D _ p6 s6 3 (by omega) hc6 fun r7 p7 s7 hc7 _ _ => ?_
    conv => whnf
    refine ⟨⟨rfl, by omega, by omega⟩, ?_⟩
    conv => whnf
    have h7 : r7 = 0 ∨ r7 = 1 ∨ r7 = 2 := by omega
    rcases h7 with rfl | rfl | rfl
    all_goals
      refine ⟨rfl, _, rfl, ?_⟩
      conv => whnf
      exact hK ⟨_, _, _, _⟩ _ _ (upk (by omega) hc7)
  conv => whnf
  refine bF_eq (fun q1 => ?_) (fun q1 => ?_)
  · conv => whnf
    refine raw.ac D _ p5 s5 (by omega) hc5 fun r6 p6 s6 hc6 _ _ => ?_
    conv => whnf
    refine cpick.ac D _ p6 s6 2 (by omega) hc6 fun r7 p7 s7 hc7 _ _ => ?_
    conv => whnf
    refine ⟨⟨rfl, by omega, by omega⟩, ?_⟩
    conv => whnf
    have h7 : r7 = 0 ∨ r7 = 1 := by omega
    rcases h7 with rfl | rfl
    all_goals
      refine ⟨rfl, _, rfl, ?_⟩
      conv => whnf
      exact hK ⟨_, _, _, _⟩ _ _ (upk (by omega) hc7)
  conv => whnf
  refine bF_eq (fun q2 => ?_) (fun q2 => ?_)
  · conv => whnf
    refine raw.ac D _ p5 s5 (by omega) hc5 fun r6 p6 s6 hc6 _ _ => ?_
    conv => whnf
    refine cpick.ac D _ p6 s6 16 (by omega) hc6 fun r7 p7 s7 hc7 _ _ => ?_
    conv => whnf
    refine cpick.ac D _ p7 s7 2 (by omega) hc7 fun r8 p8 s8 hc8 _ _ => ?_
    conv => whnf
    refine ⟨⟨rfl, by omega, by omega⟩, ?_⟩
    conv => whnf
    have h7 : r8 = 0 ∨ r8 = 1 := by omega
    rcases h7 with rfl | rfl
    all_goals
      refine ⟨rfl, _, rfl, ?_⟩
      conv => whnf
      exact hK ⟨_, _, _, _⟩ _ _ (upk (by omega) hc8)
  conv => whnf
  refine bF_eq (fun q3 => ?_) (fun q3 => ?_)
  · conv => whnf
    refine raw.ac D _ p5 s5 (by omega) hc5 fun r6 p6 s6 hc6 _ _ => ?_
    conv => whnf
    exact hK ⟨_, _, _, _⟩ _ _ (upk (by omega) hc6)
  · conv => whnf
    exact hK ⟨_, _, _, _⟩ _ _ (upk (by omega) hc5)
end Go.Eng.T

namespace Go.Eng.T
open Go.Proofs Go.Eng
set_option maxRecDepth 100000
set_option maxHeartbeats 0

instance (a b : Pu) : Decidable (oneP a b) := by unfold oneP; infer_instance
instance (a b : Pu) : Decidable (lessP a b) := by unfold lessP; infer_instance
def withoutP (ps : List Pu) (p : Pu) : List Pu := ps.filter fun q => !decide (oneP q p)
theorem withoutP_take {ps : List Pu} {i : Nat} (h : i < ps.length) {p : Pu} : withoutP (ps.take (i + 1)) p = if oneP (ps.getD i default) p then withoutP (ps.take i) p else withoutP (ps.take i) p ++ [ps.getD i default] := by
  unfold withoutP
  rw [List.take_add_one, List.getElem?_eq_getElem h, List.filter_append, List.getD_eq_getElem?_getD, List.getElem?_eq_getElem h]
  simp only [Option.toList_some, List.filter_cons, List.filter_nil, Option.getD_some]
  split <;> simp_all
theorem withoutP_len {ps : List Pu} {p : Pu} : (withoutP ps p).length ≤ ps.length := List.length_filter_le _ _

def annWo : Ann := { imm := immL [], keep := keepL [(3, [0, 3, 5, 6], [(5, 0), (29, 1)])], sw := swL [(3, (29, 1), [29, 9])] }
theorem without.ac (ps : List Pu) (p : Pu) (hp : ps.length ≤ 1000000) {K : V → List Obj → List Obj → Prop} (hK : K (.ls (1, 0) 4 0 (withoutP ps p).length) [] [.arr true 4 ((withoutP ps p).map encP)]) : AC Try.prog 74 [.is 4 (ps.map encP), encP p] [] K := by
  have hl : (ps.map encP).length = ps.length := List.length_map ..
  refine ac_body annWo [((998, 0), true), ((5, 0), true), ((9, 0), true), ((28, 0), true), ((29, 0), false), ((29, 1), false)] hm htt Try.func74 rfl (by kernel_rfl) rfl rfl ?_
  conv => whnf
  refine cwF_loop (fun n st => ∃ (z : Int) (i : Nat) (l : List Pu), (z = i ∧ n = ps.length - i ∧ i ≤ ps.length ∧ l = withoutP (ps.take i) p) ∧
    st = ⟨[.is 4 (ps.map encP), .un, .un, .lp (5, 0) 4 0 0, .un, .ls (29, 1) 4 0 l.length, iv z] ++ List.replicate 22 .un, mkOb [((5, 0), some (.arr false 4 [encP p])), ((29, 1), some (.arr true 4 (l.map encP)))]⟩) ps.length (by kernel_rfl) ⟨0, 0, [], ?_, rfl⟩ ?_
  · exact ⟨rfl, by simp, by omega, rfl⟩
  rintro n st ⟨z, i, l, ⟨rfl, rfl, i2, el⟩, rfl⟩
  have ll : l.length ≤ 1000000 := by
    rw [el]; exact Nat.le_trans withoutP_len (Nat.le_trans (List.length_take_le _ _) (by omega))
  conv => whnf
  refine bF_dec (fun i4 => ?_) (fun i4 => ?_)
  · have wt := withoutP_take (ps := ps) (i := i) (by omega) (p := p)
    rw [← el] at wt
    conv => whnf
    refine ⟨⟨rfl, by omega, by omega⟩, ?_⟩
    conv => whnf
    refine ⟨_, map_get (by omega), ?_⟩
    conv => whnf
    refine ⟨by kernel_rfl, ?_⟩
    conv => whnf
    refine one.ac (ps.getD i default) p fun r hr => ?_
    cases r
    · have e : ¬ oneP (ps.getD i default) p := fun h => by have := hr.2 h; cases this
      rw [if_neg e] at wt
      conv => whnf
      refine ⟨by kernel_rfl, ?_⟩
      conv => whnf
      refine ⟨⟨rfl, by omega, by omega⟩, ?_⟩
      conv => whnf
      refine ⟨_, map_get (by omega), ?_⟩
      conv => whnf
      refine ⟨⟨by decide, rfl, rfl, by rw [List.length_map]; omega, ⟨by show (_ + 1) * 32 ≤ _; omega, by show _ + 1 ≤ _; omega⟩, rfl, by simp [mentsOne]⟩, fun l' es' hl he => ?_⟩
      obtain rfl : es' = (l ++ [ps.getD i default]).map encP := by rw [he, List.drop_zero, List.take_of_length_le (by simp), List.map_append]; rfl
      obtain rfl : l' = (l ++ [ps.getD i default]).length := by rw [hl]; simp
      conv => whnf
      refine ⟨by kernel_rfl, ps.length - (i + 1), by omega, _, i + 1, l ++ [ps.getD i default], ⟨wrap_i64 (by omega), rfl, by omega, wt.symm⟩, rfl⟩
    · rw [if_pos (hr.1 rfl)] at wt
      conv => whnf
      refine ⟨by kernel_rfl, ?_⟩
      conv => whnf
      refine ⟨by kernel_rfl, ps.length - (i + 1), by omega, _, i + 1, l, ⟨wrap_i64 (by omega), rfl, by omega, wt.symm⟩, rfl⟩
  · conv => whnf
    rw [List.take_of_length_le (by omega)] at el
    subst el
    exact hK

/-- How many entries at the front are less. -/
def lessN (rest : List Pu) (p : Pu) : Nat := (rest.takeWhile fun q => decide (lessP q p)).length
def insP (rest : List Pu) (p : Pu) : List Pu := rest.take (lessN rest p) ++ [p] ++ rest.drop (lessN rest p)
theorem lessN_at {rest : List Pu} {p : Pu} {n : Nat} (h : ∀ i, i < n → lessP (rest.getD i default) p) (hn : n ≤ rest.length) (h2 : n < rest.length → ¬ lessP (rest.getD n default) p) : lessN rest p = n := by
  unfold lessN
  induction rest generalizing n with
  | nil => simp at hn; simp [hn]
  | cons a l ih =>
    cases n with
    | zero =>
      have := h2 (by simp)
      simp only [List.getD_cons_zero] at this
      rw [List.takeWhile_cons, decide_eq_false this]; rfl
    | succ n =>
      have h0 := h 0 (by omega)
      simp only [List.getD_cons_zero] at h0
      rw [List.takeWhile_cons, decide_eq_true h0]
      simp only [if_true, List.length_cons]
      rw [ih (n := n) (fun i hi => by have := h (i + 1) (by omega); simpa using this) (by simpa using hn) (fun hn2 => by have := h2 (by simpa using hn2); simpa using this)]

theorem PolicySetS.ac (N : Int) (up : List Int) (ps : List Pu) (p : Pu) (hp : ps.length ≤ 1000000) {K : V → List Obj → List Obj → Prop}
    (hK1 : PolOk (LatP N up) N ps → rightP p → 0 ≤ p.l ∧ p.l < N → (withoutP ps p).length ≠ 12 → K (.tup [.ls (1, 0) 4 0 (insP (withoutP ps p) p).length, bv true]) [] [.arr true 4 ((insP (withoutP ps p) p).map encP)])
    (hK0 : ¬ (PolOk (LatP N up) N ps ∧ rightP p ∧ (0 ≤ p.l ∧ p.l < N) ∧ (withoutP ps p).length ≠ 12) → K (.tup [nilS, bv false]) [] []) : AC Try.prog 34 [latV N up, .is 4 (ps.map encP), encP p] [] K := by
  refine ac_body (ann [(7, [5, 8, 9], [(7, 0), (24, 0)])]) [((998, 0), true), ((5, 0), true), ((7, 0), true), ((24, 0), false), ((42, 0), false), ((46, 0), false), ((48, 0), true), ((49, 0), false), ((53, 0), false)] hm htt Try.func34 rfl (by kernel_rfl) rfl rfl ?_
  conv => whnf
  refine PolicyOkS.ac N up ps hp fun r1 h1 => ?_
  cases r1
  · conv => whnf
    exact hK0 fun h => by have := h1.2 h.1; cases this
  have g1 := h1.1 rfl
  conv => whnf
  refine PunctOkS.ac N up p fun r2 h2 => ?_
  cases r2
  · conv => whnf
    exact hK0 fun h => by have := h2.2 ⟨⟨g1.1, h.2.2.1⟩, h.2.1⟩; cases this
  have g2 := h2.1 rfl
  conv => whnf
  refine without.ac ps p hp ?_
  refine Exists.elim (⟨_, rfl⟩ : ∃ l, withoutP ps p = l) fun l el => ?_
  have ll : l.length ≤ 12 := by rw [← el]; exact Nat.le_trans withoutP_len g1.2.1
  rw [el]
  rw [el] at hK1 hK0
  conv => whnf
  refine bF_eq (fun i5 => ?_) (fun i5 => ?_)
  · conv => whnf
    exact hK0 fun h => h.2.2.2 (by omega)
  have K1 := hK1 g1 g2.2 g2.1.2 (by omega)
  conv => whnf
  refine cwF_loop (fun n st => ∃ (z : Int) (i : Nat), (z = i ∧ n = l.length - i ∧ i ≤ l.length ∧ ∀ j, j < i → lessP (l.getD j default) p) ∧
    st = ⟨[.un, .un, .un, .un, .un, .lp (7, 0) 4 0 0, .un, .un, .ls (24, 0) 4 0 l.length, iv z] ++ List.replicate 42 .un, mkOb [((7, 0), some (.arr false 4 [encP p])), ((24, 0), some (.arr true 4 (l.map encP)))]⟩) l.length (by kernel_rfl) ⟨0, 0, ?_, rfl⟩ ?_
  · exact ⟨rfl, by simp, by omega, fun j h => by omega⟩
  rintro n st ⟨z, i, ⟨rfl, rfl, i2, i3⟩, rfl⟩
  have hl : (l.map encP).length = l.length := List.length_map ..
  conv => whnf
  refine bF_dec (fun i4 => ?_) (fun i4 => ?_)
  · conv => whnf
    refine ⟨⟨rfl, by omega, by omega⟩, ?_⟩
    conv => whnf
    refine ⟨rfl, _, map_get0 (by omega), ?_⟩
    conv => whnf
    refine ⟨by kernel_rfl, ?_⟩
    conv => whnf
    refine less.ac (l.getD i default) p fun r3 h3 => ?_
    cases r3
    · have n1 : lessN l p = i := lessN_at i3 i2 fun _ h => by have := h3.2 h; cases this
      have ln : lessN l p ≤ 12 := by omega
      have K2 := K1
      unfold insP at K2
      rcases i with _ | i
      all_goals
        conv => whnf
        repeat (refine ⟨by kernel_rfl, ?_⟩; conv => whnf)
        refine ⟨⟨by omega, by omega⟩, ?_⟩
        conv => whnf
        refine ⟨⟨rfl, rfl, by omega⟩, fun xs hx => ?_⟩
        obtain rfl : xs = (l.take (lessN l p)).map encP := by rw [hx, n1, List.map_take]; rfl
        have tl : (l.take (lessN l p)).length ≤ 12 := by rw [List.length_take]; omega
        refine ⟨⟨by decide, rfl, rfl, by simp, ⟨by rw [List.length_map]; show (0 + _) * 32 ≤ _; omega, by rw [List.length_map]; show 0 + _ ≤ _; omega⟩, rfl, by simp [mentsOne]⟩, fun l1 es1 hl1 he1 => ?_⟩
        obtain rfl : es1 = (l.take (lessN l p)).map encP := by rw [he1]; rfl
        obtain rfl : l1 = (l.take (lessN l p)).length := by rw [hl1, List.length_map]; omega
        conv => whnf
        refine ⟨⟨by decide, rfl, rfl, by rw [List.length_map]; omega, ⟨by show (_ + 1) * 32 ≤ _; omega, by show _ + 1 ≤ _; omega⟩, rfl, by simp [mentsOne]⟩, fun l2 es2 hl2 he2 => ?_⟩
        obtain rfl : es2 = (l.take (lessN l p) ++ [p]).map encP := by rw [he2, List.drop_zero, List.take_of_length_le (by simp), List.map_append]; rfl
        obtain rfl : l2 = (l.take (lessN l p) ++ [p]).length := by rw [hl2]; simp
        conv => whnf
        refine ⟨rfl, ⟨by omega, by omega⟩, ?_⟩
        conv => whnf
        refine ⟨⟨rfl, rfl, by omega⟩, fun xs hx => ?_⟩
        obtain rfl : xs = (l.drop (lessN l p)).map encP := by
          rw [hx, n1, List.map_drop]
          refine (List.take_of_length_le ?_).trans ?_
          · rw [List.length_drop, List.length_map]; omega
          · rw [Nat.zero_add]; rfl
        have dl : (l.drop (lessN l p)).length ≤ 12 := by rw [List.length_drop]; omega
        have tl2 : (l.take (lessN l p) ++ [p]).length ≤ 13 := by simp only [List.length_append, List.length_cons, List.length_nil]; omega
        refine ⟨⟨by decide, rfl, rfl, by rw [List.length_map]; omega, ⟨by rw [List.length_map]; show (_ + _) * 32 ≤ _; omega, by rw [List.length_map]; show _ + _ ≤ _; omega⟩, rfl, by simp [mentsOne]⟩, fun l3 es3 hl3 he3 => ?_⟩
        obtain rfl : es3 = (l.take (lessN l p) ++ [p] ++ l.drop (lessN l p)).map encP := by rw [he3, List.drop_zero, List.take_of_length_le (by simp), List.map_append (l₂ := l.drop (lessN l p))]
        obtain rfl : l3 = (l.take (lessN l p) ++ [p] ++ l.drop (lessN l p)).length := by rw [hl3, List.length_map, List.length_append (bs := l.drop (lessN l p))]
        conv => whnf
        repeat (refine ⟨by kernel_rfl, ?_⟩; conv => whnf)
        exact K2
    · conv => whnf
      refine ⟨by kernel_rfl, ?_⟩
      conv => whnf
      refine ⟨by kernel_rfl, l.length - (i + 1), by omega, _, i + 1, ⟨wrap_i64 (by omega), rfl, by omega, fun j hj => ?_⟩, rfl⟩
      rcases (by omega : j < i ∨ j = i) with h | rfl
      · exact i3 j h
      · exact h3.1 rfl
  · have n1 : lessN l p = i := lessN_at i3 i2 fun h => by omega
    have ln : lessN l p ≤ 12 := by omega
    have K2 := K1
    unfold insP at K2
    rcases i with _ | i
    all_goals
      conv => whnf
      repeat (refine ⟨by kernel_rfl, ?_⟩; conv => whnf)
      refine ⟨⟨by omega, by omega⟩, ?_⟩
      conv => whnf
      refine ⟨⟨rfl, rfl, by omega⟩, fun xs hx => ?_⟩
      obtain rfl : xs = (l.take (lessN l p)).map encP := by rw [hx, n1, List.map_take]; rfl
      have tl : (l.take (lessN l p)).length ≤ 12 := by rw [List.length_take]; omega
      refine ⟨⟨by decide, rfl, rfl, by simp, ⟨by rw [List.length_map]; show (0 + _) * 32 ≤ _; omega, by rw [List.length_map]; show 0 + _ ≤ _; omega⟩, rfl, by simp [mentsOne]⟩, fun l1 es1 hl1 he1 => ?_⟩
      obtain rfl : es1 = (l.take (lessN l p)).map encP := by rw [he1]; rfl
      obtain rfl : l1 = (l.take (lessN l p)).length := by rw [hl1, List.length_map]; omega
      conv => whnf
      refine ⟨⟨by decide, rfl, rfl, by rw [List.length_map]; omega, ⟨by show (_ + 1) * 32 ≤ _; omega, by show _ + 1 ≤ _; omega⟩, rfl, by simp [mentsOne]⟩, fun l2 es2 hl2 he2 => ?_⟩
      obtain rfl : es2 = (l.take (lessN l p) ++ [p]).map encP := by rw [he2, List.drop_zero, List.take_of_length_le (by simp), List.map_append]; rfl
      obtain rfl : l2 = (l.take (lessN l p) ++ [p]).length := by rw [hl2]; simp
      conv => whnf
      refine ⟨rfl, ⟨by omega, by omega⟩, ?_⟩
      conv => whnf
      refine ⟨⟨rfl, rfl, by omega⟩, fun xs hx => ?_⟩
      obtain rfl : xs = (l.drop (lessN l p)).map encP := by
        rw [hx, n1, List.map_drop]
        refine (List.take_of_length_le ?_).trans ?_
        · rw [List.length_drop, List.length_map]; omega
        · rw [Nat.zero_add]; rfl
      have dl : (l.drop (lessN l p)).length ≤ 12 := by rw [List.length_drop]; omega
      have tl2 : (l.take (lessN l p) ++ [p]).length ≤ 13 := by simp only [List.length_append, List.length_cons, List.length_nil]; omega
      refine ⟨⟨by decide, rfl, rfl, by rw [List.length_map]; omega, ⟨by rw [List.length_map]; show (_ + _) * 32 ≤ _; omega, by rw [List.length_map]; show _ + _ ≤ _; omega⟩, rfl, by simp [mentsOne]⟩, fun l3 es3 hl3 he3 => ?_⟩
      obtain rfl : es3 = (l.take (lessN l p) ++ [p] ++ l.drop (lessN l p)).map encP := by rw [he3, List.drop_zero, List.take_of_length_le (by simp), List.map_append (l₂ := l.drop (lessN l p))]
      obtain rfl : l3 = (l.take (lessN l p) ++ [p] ++ l.drop (lessN l p)).length := by rw [hl3, List.length_map, List.length_append (bs := l.drop (lessN l p))]
      conv => whnf
      repeat (refine ⟨by kernel_rfl, ?_⟩; conv => whnf)
      exact K2
end Go.Eng.T

namespace Go.Eng.T
open Go.Proofs Go.Eng
set_option maxRecDepth 100000
set_option maxHeartbeats 0

abbrev psO (l : List Pu) : Obj := .arr true 4 (l.map encP)
theorem noIs_ps (l : List Pu) : noIsO [psO l] = true := by
  have : noIsL (l.map encP) = true := noIsL_of fun x hx => by obtain ⟨i, _, rfl⟩ := List.mem_map.1 hx; rfl
  show ((noIsL (l.map encP)) && true) = true
  rw [this]; rfl
/-- The lattice and the entries, lent; the other arguments are plain. -/
theorem AC.latPs {P : Program} {f : FuncId} {N : Int} {up : List Int} {b : List Pu} {xs : List V} {K : V → List Obj → List Obj → Prop} (hx : ∀ x ∈ xs, x.ments = []) (h : AC P f (latV N up :: .is 4 (b.map encP) :: xs) [] fun v o n => (v.noIs = true ∧ noIsO o = true ∧ noIsO n = true) ∧ (v.noIs = true ∧ noIsO (o ++ [upO up]) = true ∧ noIsO n = true) ∧ K v (o ++ [upO up] ++ [psO b]) n) :
    AC P f (latL N up :: .ls (0, 1) 4 0 b.length :: xs) [upO up, psO b] K := by
  have same (k : Key) (n : Nat) (es : List V) : ∀ {xs : List V}, (∀ x ∈ xs, x.ments = []) → LendA k n es xs xs := fun {xs} => by
    induction xs with
    | nil => exact fun _ => .nil
    | cons x xs ih => exact fun h => .cons (.same (by rw [h x List.mem_cons_self]; exact List.not_mem_nil)) (ih fun y hy => h y (List.mem_cons_of_mem _ hy))
  exact AC.borrow (objs := [upO up]) (.cons (.same (by simp [V.ments, mentsL])) (.cons (.all (by simp)) (same _ _ _ hx))) (fun x hx => by rw [List.mem_singleton.1 hx]; exact List.not_mem_nil)
    (AC.borrow (objs := []) (lendLat (.cons (.same List.not_mem_nil) (same _ _ _ hx))) (fun _ h => nomatch h) h)
/-- Arguments that are less known. -/
theorem AC.args {P : Program} {f : FuncId} {xs ys : List V} {objs : List Obj} {K : V → List Obj → List Obj → Prop} (hl : xs.length = ys.length) (h0 : ∀ (i : Nat) y, ys[i]? = some y → ∃ x, xs[i]? = some x ∧ ∀ {F : Cells} {m : Mem} {pl : Places} {cv : Value}, RepV F m pl x cv → RepV F m pl y cv) (h : AC P f ys objs K) : AC P f xs objs K := by
  intro F pl w cargs hw hsz hrep
  exact h F pl w cargs hw (by rw [hsz, hl]) fun i y hi hy => by
    obtain ⟨x, h1, h2⟩ := h0 i y hy
    exact h2 (hrep i x hi h1)

def annPol : Ann := { imm := immL [], keep := keepL [(3, [0, 3, 5, 6], [(0, 0), (0, 1), (5, 0), (24, 1)])], sw := swL [(3, (24, 1), [24, 11])] }
theorem policy.ac (D : List Int) (k p s N : Int) (up : List Int) (hk : k ≤ 700000) (hc : CurI D k p s) {K : V → List Obj → List Obj → Prop}
    (hK : ∀ ps p' s', ps.length ≤ 13 → CurI D (k + 111) p' s' → K (.ls (1, 0) 4 0 ps.length) [cur D p' s', upO up] [psO ps]) : AC Try.prog 92 [.lp (0,0) 3 0 0, .agg [iv N, .ls (0, 1) 1 0 up.length]] [cur D p s, upO up] K := by
  refine ac_body annPol [((998, 0), true), ((0, 0), true), ((0, 1), false), ((5, 0), true), ((11, 0), true), ((24, 0), false), ((24, 1), false)] hm htt Try.func92 rfl (by kernel_rfl) rfl rfl ?_
  conv => whnf
  refine size.ac D k p s 10 (by omega) (by omega) hc fun r p1 s1 hc1 r1 r2 => ?_
  conv => whnf
  refine cwF_loop (fun n st => ∃ (z p s : Int) (l : List Pu), (n = z.toNat ∧ 0 ≤ z ∧ z ≤ 10 ∧ l.length ≤ 13 ∧ CurI D (k + 111 - 10 * z) p s) ∧
    st = ⟨[.lp (0,0) 3 0 0, .un, .un, .lp (5, 0) 2 0 0, .un, .ls (24, 1) 4 0 l.length, iv z] ++ List.replicate 21 .un, mkOb [((0, 0), some (cur D p s)), ((0, 1), some (upO up)), ((5, 0), some (.arr false 2 [.agg [iv N, .ls (0, 1) 1 0 up.length]])), ((24, 1), some (psO l))]⟩) r.toNat (by kernel_rfl) ⟨r, p1, s1, [], ⟨rfl, r1, r2, by simp, hc1.up (by omega)⟩, rfl⟩ ?_
  rintro n st ⟨z, p2, s2, l, ⟨rfl, z1, z2, l1, hc2⟩, rfl⟩
  conv => whnf
  refine bF_dec (fun i4 => ?_) (fun i4 => ?_)
  · conv => whnf
    refine ⟨by kernel_rfl, ?_⟩
    conv => whnf
    refine punct.ac D _ p2 s2 N up (by omega) hc2 fun x p3 s3 hc3 => ?_
    conv => whnf
    refine ⟨by kernel_rfl, ?_⟩
    conv => whnf
    have hc3 : CurI D (k + 111 - 10 * (z - 1)) p3 s3 := hc3.up (by omega)
    refine AC.latPs (xs := [encP x]) (by simp [V.ments, mentsL]) (PolicySetS.ac N up l x (by omega) (fun g _ _ hl => ?_) fun _ => ?_)
    · refine ⟨⟨rfl, rfl, noIs_ps _⟩, ⟨rfl, noIs_words up, noIs_ps _⟩, ?_⟩
      have len : (insP (withoutP l x) x).length ≤ 13 := by
        have h1 := withoutP_len (ps := l) (p := x)
        have h2 := g.2.1
        simp only [insP, List.length_append, List.length_take, List.length_drop, List.length_cons, List.length_nil]
        omega
      conv => whnf
      repeat (refine ⟨by kernel_rfl, ?_⟩; conv => whnf)
      refine ⟨(z - 1).toNat, by omega, _, _, _, _, ⟨?_, ?_, ?_, len, ?_⟩, rfl⟩ <;> rw [wrap_i64 (by omega)] <;> first | omega | exact hc3
    · refine ⟨⟨rfl, rfl, rfl⟩, ⟨rfl, noIs_words up, rfl⟩, ?_⟩
      conv => whnf
      repeat (refine ⟨by kernel_rfl, ?_⟩; conv => whnf)
      refine ⟨(z - 1).toNat, by omega, _, _, _, l, ⟨?_, ?_, ?_, l1, ?_⟩, rfl⟩ <;> rw [wrap_i64 (by omega)] <;> first | omega | exact hc3
  · conv => whnf
    exact hK l _ _ l1 (hc2.up (by omega))

def annBad : Ann := { imm := immL [], keep := keepL [(7, [0, 5, 6], [(0, 0), (0, 1), (36, 1)])], sw := swL [(7, (36, 1), [36, 11])] }
theorem badPolicy.ac (D : List Int) (k p s N : Int) (up : List Int) (hk : k ≤ 600000) (hc : CurI D k p s) {K : V → List Obj → List Obj → Prop}
    (hK : ∀ ps p' s', ps.length ≤ 14 → CurI D (k + 150) p' s' → K (.ls (1, 0) 4 0 ps.length) [cur D p' s', upO up] [psO ps]) : AC Try.prog 59 [.lp (0,0) 3 0 0, .agg [iv N, .ls (0, 1) 1 0 up.length]] [cur D p s, upO up] K := by
  refine ac_body annBad [((998, 0), true), ((0, 0), true), ((0, 1), false), ((5, 0), true), ((11, 0), false), ((20, 0), true), ((21, 0), false), ((35, 0), true), ((36, 0), false), ((36, 1), false)] hm htt Try.func59 rfl (by kernel_rfl) rfl rfl ?_
  conv => whnf
  refine policy.ac D k p s N up (by omega) hc fun l p1 s1 l1 hc1 => ?_
  conv => whnf
  refine cpick.ac D _ p1 s1 12 (by omega) hc1 fun r p2 s2 hc2 _ _ => ?_
  conv => whnf
  refine bF_eq (fun q0 => ?_) (fun q0 => ?_)
  · conv => whnf
    refine punct.ac D _ p2 s2 N up (by omega) hc2 fun x p3 s3 hc3 => ?_
    conv => whnf
    refine ⟨⟨by decide, rfl, rfl, by rw [List.length_map]; omega, ⟨by show (_ + 1) * 32 ≤ _; omega, by show _ + 1 ≤ _; omega⟩, rfl, by simp [mentsOne]⟩, fun l2 es2 hl2 he2 => ?_⟩
    obtain rfl : es2 = (l ++ [x]).map encP := by rw [he2, List.drop_zero, List.take_of_length_le (by simp), List.map_append]; rfl
    obtain rfl : l2 = (l ++ [x]).length := by rw [hl2]; simp
    conv => whnf
    exact hK (l ++ [x]) _ _ (by simp; omega) (hc3.up (by omega))
  conv => whnf
  refine bF_eq (fun q1 => ?_) (fun q1 => ?_)
  · conv => whnf
    refine cwF_loop (fun n st => ∃ (z p s : Int) (l : List Pu), (n = 13 - l.length ∧ l.length ≤ 13 ∧ CurI D (k + 112 + l.length) p s) ∧
      st = ⟨[.lp (0,0) 3 0 0, .un, .un, .un, .un, .ls (36, 1) 4 0 l.length, iv z] ++ List.replicate 29 .un, mkOb [((0, 0), some (cur D p s)), ((0, 1), some (upO up)), ((36, 1), some (psO l))]⟩) (13 - l.length) (by kernel_rfl) ⟨0, p2, s2, l, ⟨rfl, l1, hc2.up (by omega)⟩, rfl⟩ ?_
    rintro n st ⟨z, p3, s3, l, ⟨rfl, l1, hc3⟩, rfl⟩
    conv => whnf
    refine cpick.ac D _ p3 s3 2 (by omega) hc3 fun r2 p4 s4 hc4 _ _ => ?_
    conv => whnf
    have e := wrap_i64 (x := 12 + r2) (by omega)
    refine bF_dec (fun i4 => ?_) (fun i4 => ?_)
    · conv => whnf
      refine ⟨⟨by decide, rfl, rfl, by rw [List.length_map]; omega, ⟨by show (_ + 1) * 32 ≤ _; omega, by show _ + 1 ≤ _; omega⟩, rfl, by simp [mentsOne]⟩, fun l2 es2 hl2 he2 => ?_⟩
      obtain rfl : es2 = (l ++ [(⟨3, 4, z, 0⟩ : Pu)]).map encP := by rw [he2, List.drop_zero, List.take_of_length_le (by simp), List.map_append]; rfl
      obtain rfl : l2 = (l ++ [(⟨3, 4, z, 0⟩ : Pu)]).length := by rw [hl2]; simp
      conv => whnf
      exact ⟨by kernel_rfl, 13 - (l.length + 1), by omega, _, _, _, l ++ [⟨3, 4, z, 0⟩], ⟨by simp, by simp; omega, hc4.up (by simp; omega)⟩, rfl⟩
    · conv => whnf
      exact hK l _ _ (by omega) (hc4.up (by omega))
  · conv => whnf
    exact hK l _ _ (by omega) (hc2.up (by omega))

theorem DrawPolicyFor.ac (D : List Int) (hd : Bytes D) (hl : D.length ≤ 1048576) {K : V → List Obj → List Obj → Prop}
    (hK : ∀ N up ps a b, (-9223372036854775808 ≤ N ∧ N ≤ 9223372036854775807) → 1 ≤ up.length → up.length ≤ 9 → Words up → ps.length ≤ 14 → K (.tup [latO N up, .ls (1, 1) 4 0 ps.length, iv a, iv b]) [] [upO up, psO ps]) : AC Try.prog 29 [.is 1 (D.map encB)] [] K := by
  refine ac_body (ann []) [((998, 0), true), ((4, 0), true), ((12, 0), true), ((14, 0), false), ((9, 0), true), ((17, 0), false)] hm htt Try.func29 rfl (by kernel_rfl) rfl rfl ?_
  conv => whnf
  refine l01Open.ac D hd hl fun s hc => ?_
  conv => whnf
  refine badLat.ac lat.ac D 0 0 s (by omega) hc fun N up p1 s1 h1 h2 h3 h4 hw hc1 => ?_
  conv => whnf
  refine badPolicy.ac D _ p1 s1 N up (by omega) hc1 fun ps p2 s2 l1 hc2 => ?_
  conv => whnf
  refine once.ac D _ p2 s2 9 (by omega) hc2 fun r p3 s3 hc3 => ?_
  cases r
  · conv => whnf
    repeat (refine ⟨by kernel_rfl, ?_⟩; conv => whnf)
    refine cpick.ac D _ p3 s3 3 (by omega) hc3 fun r4 p4 s4 hc4 _ _ => ?_
    conv => whnf
    repeat (refine ⟨by kernel_rfl, ?_⟩; conv => whnf)
    refine cpick.ac D _ p4 s4 16 (by omega) hc4 fun r5 p5 s5 hc5 _ _ => ?_
    conv => whnf
    repeat (refine ⟨by kernel_rfl, ?_⟩; conv => whnf)
    exact hK N up ps _ _ ⟨h1, h2⟩ h3 h4 hw l1
  · conv => whnf
    repeat (refine ⟨by kernel_rfl, ?_⟩; conv => whnf)
    refine raw.ac D _ p3 s3 (by omega) hc3 fun r4 p4 s4 hc4 _ _ => ?_
    conv => whnf
    repeat (refine ⟨by kernel_rfl, ?_⟩; conv => whnf)
    refine raw.ac D _ p4 s4 (by omega) hc4 fun r5 p5 s5 hc5 _ _ => ?_
    conv => whnf
    repeat (refine ⟨by kernel_rfl, ?_⟩; conv => whnf)
    exact hK N up ps _ _ ⟨h1, h2⟩ h3 h4 hw l1
end Go.Eng.T

namespace Go.Eng.T
open Go.Proofs Go.Eng
set_option maxRecDepth 100000
set_option maxHeartbeats 0

theorem forP_eq {N : Int} {up : List Int} (hw : Words up) {ps : List Pu} {src key r r' : Int} (h : ForP (LatI N up) N up ps src key r) (h' : ForP (LatP N up) N up ps src key r') : r' = r := by
  by_cases c : PolOk (LatI N up) N ps ∧ (0 ≤ src ∧ src < 4) ∧ (0 ≤ key ∧ key ≤ 15)
  · rw [h.1 c, h'.1 ⟨⟨(latI_iff hw).1 c.1.1, c.1.2⟩, c.2⟩]
  · rw [h.2 c, h'.2 fun k => c ⟨⟨(latI_iff hw).2 k.1.1, k.1.2⟩, k.2⟩]
theorem forP_ok {L : Prop} {N : Int} {up : List Int} {ps : List Pu} {src key r : Int} (h : ForP L N up ps src key r) (h0 : ¬ r < 0) : PolOk L N ps ∧ (0 ≤ src ∧ src < 4) ∧ (0 ≤ key ∧ key ≤ 15) := by
  by_cases c : PolOk L N ps ∧ (0 ≤ src ∧ src < 4) ∧ (0 ≤ key ∧ key ≤ 15)
  · exact c
  · exact absurd (h.2 c) (by omega)
theorem fold_none {ps : List Pu} {src key : Int} {t : Int × Int} (h : ∀ x ∈ ps, ¬ hasP x src key) : ps.foldl (stepB src key) t = t := by
  induction ps with
  | nil => rfl
  | cons a l ih =>
    rw [List.foldl_cons, stepB_no fun k => h a List.mem_cons_self k.2]
    exact ih fun x hx => h x (List.mem_cons_of_mem _ hx)
theorem getD_in {l : List Pu} {i : Nat} (h : i < l.length) : l.getD i default ∈ l := by
  rw [List.getD_eq_getElem?_getD, List.getElem?_eq_getElem h]; exact List.getElem_mem h
theorem in_getD {l : List Pu} {x : Pu} (h : x ∈ l) : ∃ i, i < l.length ∧ l.getD i default = x := by
  obtain ⟨i, hi, rfl⟩ := List.getElem_of_mem h
  exact ⟨i, hi, by rw [List.getD_eq_getElem?_getD, List.getElem?_eq_getElem hi]; rfl⟩

theorem PolicyForS2.ac {N : Int} {up : List Int} {ps : List Pu} {src key r : Int} (hw : Words up) (hp : ps.length ≤ 1000000) (hr : ForP (LatI N up) N up ps src key r) {K : V → List Obj → List Obj → Prop} (hK : K (iv r) [] []) : AC Try.prog 31 [latV N up, .is 4 (ps.map encP), iv src, iv key] [] K :=
  PolicyForS.ac N up ps src key hw hp fun r' h' => by rw [forP_eq hw hr h']; exact hK
theorem PolicyForNil.ac {M : Nat} {up : List Int} {src key : Int} (hI : LatI M up) (hs : 0 ≤ src ∧ src < 4) (hk : 0 ≤ key ∧ key ≤ 15) {K : V → List Obj → List Obj → Prop} (hK : K (iv (endTo M up true M)) [] []) : AC Try.prog 30 [latV M up, nilS, iv src, iv key] [] K := by
  refine AC.args (ys := [latV M up, .is 4 (([] : List Pu).map encP), iv src, iv key]) rfl (fun i y hi => ?_) (PolicyForI.ac M up [] src key (by simp) fun r hr => ?_)
  · match i with
    | 0 => exact ⟨_, rfl, by simp at hi; subst hi; exact fun h => h⟩
    | 1 =>
      refine ⟨_, rfl, ?_⟩
      simp at hi; subst hi
      intro F m pl cv h
      cases h
      exact .isn
    | 2 => exact ⟨_, rfl, by simp at hi; subst hi; exact fun h => h⟩
    | 3 => exact ⟨_, rfl, by simp at hi; subst hi; exact fun h => h⟩
    | n + 4 => simp at hi
  · have := hr.1 ⟨⟨hI, by simp, fun i hi => by simp at hi⟩, hs, hk⟩
    rw [this]
    exact hK

/-- The lattice, lent; the other arguments are plain. -/
theorem AC.latX {P : Program} {f : FuncId} {N : Int} {up : List Int} {xs : List V} {K : V → List Obj → List Obj → Prop} (hx : ∀ x ∈ xs, x.ments = []) (h : AC P f (latV N up :: xs) [] fun v o n => (v.noIs = true ∧ noIsO o = true ∧ noIsO n = true) ∧ K v (o ++ [upO up]) n) :
    AC P f (latL N up :: xs) [upO up] K := by
  have same (k : Key) (n : Nat) (es : List V) : ∀ {xs : List V}, (∀ x ∈ xs, x.ments = []) → LendA k n es xs xs := fun {xs} => by
    induction xs with
    | nil => exact fun _ => .nil
    | cons x xs ih => exact fun h => .cons (.same (by rw [h x List.mem_cons_self]; exact List.not_mem_nil)) (ih fun y hy => h y (List.mem_cons_of_mem _ hy))
  exact AC.borrow (objs := []) (lendLat (same _ _ _ hx)) (fun _ h => nomatch h) h

theorem FnClosed.ac (D : List Int) (hd : Bytes D) {K : V → List Obj → List Obj → Prop} (hK : K (bv true) [] []) : AC Try.prog 6 [.is 1 (D.map encB)] [] K := by
  refine ac_body (ann [(9, [3, 4, 5, 6, 7, 8, 9], [(5, 0), (18, 0), (18, 1)])]) [((998, 0), true), ((5, 0), true), ((18, 0), false), ((18, 1), false)] hm htt Try.func6 rfl (by kernel_rfl) rfl rfl ?_
  conv => whnf
  refine big.ac D ?_
  conv => whnf
  refine vif_dec (fun h0 => ?_) (fun h0 => ?_)
  · conv => whnf
    exact hK
  conv => whnf
  refine DrawPolicyFor.ac D hd (by omega) fun N up ps src key hN u1 u2 hw hp => ?_
  conv => whnf
  refine AC.latPs (xs := [iv src, iv key]) (by simp [V.ments]) (PolicyForI.ac N up ps src key (by omega) fun a ha => ⟨⟨rfl, rfl, rfl⟩, ⟨rfl, noIs_words up, rfl⟩, ?_⟩)
  conv => whnf
  refine AC.latPs (xs := [iv src, iv key]) (by simp [V.ments]) (PolicyForS2.ac hw (by omega) ha ⟨⟨rfl, rfl, rfl⟩, ⟨rfl, noIs_words up, rfl⟩, ?_⟩)
  conv => whnf
  refine bF_ne (fun h => absurd rfl h) (fun _ => ?_)
  conv => whnf
  refine bF_dec (fun h1 => ?_) (fun h1 => ?_)
  · conv => whnf
    refine AC.latPs (xs := [iv src, iv key]) (by simp [V.ments]) (PolicyForS2.ac hw (by omega) ha ⟨⟨rfl, rfl, rfl⟩, ⟨rfl, noIs_words up, rfl⟩, ?_⟩)
    conv => whnf
    refine bF_eq (fun _ => ?_) (fun h => absurd rfl h)
    conv => whnf
    exact hK
  have g := forP_ok ha h1
  have ea := ha.1 g
  obtain ⟨⟨hI, p12, gd⟩, hs, hk⟩ := g
  refine Exists.elim (⟨N.toNat, by have := hI.1; omega⟩ : ∃ M : Nat, N = M) fun M e => ?_
  subst e
  rw [Int.toNat_natCast] at ea
  have hl : (ps.map encP).length = ps.length := List.length_map ..
  conv => whnf
  refine cwF_loop (fun n st => ∃ (z : Int) (i : Nat) (w : Bool), (z = i ∧ n = ps.length - i ∧ i ≤ ps.length ∧ (w = false → ∀ j, j < i → ¬ hasP (ps.getD j default) src key)) ∧
    st = ⟨[.un, .un, .un, .lp (5, 0) 2 0 0, .ls (18, 1) 4 0 ps.length, iv src, iv key, iv a, bv w, iv z] ++ List.replicate 69 .un, mkOb [((5, 0), some (.arr false 2 [.agg [iv M, .ls (18, 0) 1 0 up.length]])), ((18, 0), some (upO up)), ((18, 1), some (psO ps))]⟩) ps.length (by kernel_rfl) ⟨0, 0, false, ?_, rfl⟩ ?_
  · exact ⟨rfl, by simp, by omega, fun _ j h => by omega⟩
  rintro n st ⟨z, i, w, ⟨rfl, rfl, i2, i3⟩, rfl⟩
  conv => whnf
  refine bF_dec (fun i4 => ?_) (fun i4 => ?_)
  · conv => whnf
    cases w
    · conv => whnf
      refine ⟨⟨rfl, by omega, by omega⟩, ?_⟩
      conv => whnf
      refine ⟨rfl, _, map_get0 (by omega), ?_⟩
      conv => whnf
      refine PunctHasI.ac (ps.getD i default) src key fun r hr => ?_
      conv => whnf
      refine ⟨by kernel_rfl, ps.length - (i + 1), by omega, _, i + 1, r, ⟨wrap_i64 (by omega), rfl, by omega, fun h j hj => ?_⟩, rfl⟩
      rcases (by omega : j < i ∨ j = i) with h2 | rfl
      · exact i3 rfl j h2
      · exact fun h3 => by rw [hr.2 h3] at h; cases h
    · conv => whnf
      exact ⟨by kernel_rfl, ps.length - (i + 1), by omega, _, i + 1, true, ⟨wrap_i64 (by omega), rfl, by omega, fun h => (nomatch h)⟩, rfl⟩
  · conv => whnf
    refine AC.lat0 (LatEndsI.ac M up fun lo hi he => ⟨⟨rfl, rfl, rfl⟩, ?_⟩)
    have h2 := (he hI).2
    rw [Int.toNat_natCast] at h2
    subst h2
    have fin : w = false → a = endTo M up true M := fun h => by
      rw [ea, polFor, fold_none]
      intro x hx
      obtain ⟨j, hj, rfl⟩ := in_getD hx
      exact i3 h j (by omega)
    cases w
    · conv => whnf
      refine bF_eq (fun _ => ?_) (fun h => absurd (fin rfl) h)
      conv => whnf
      refine AC.latX (xs := [nilS, iv src, iv key]) (by simp [V.ments]) (PolicyForNil.ac hI hs hk ⟨⟨rfl, rfl, rfl⟩, ?_⟩)
      conv => whnf
      refine bF_eq (fun _ => ?_) (fun h => absurd rfl h)
      conv => whnf
      exact hK
    · conv => whnf
      refine AC.latX (xs := [nilS, iv src, iv key]) (by simp [V.ments]) (PolicyForNil.ac hI hs hk ⟨⟨rfl, rfl, rfl⟩, ?_⟩)
      conv => whnf
      refine bF_eq (fun _ => ?_) (fun h => absurd rfl h)
      conv => whnf
      exact hK
end Go.Eng.T
