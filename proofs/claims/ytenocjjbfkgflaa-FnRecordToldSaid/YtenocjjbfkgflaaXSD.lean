import Derived.Test.YtenocjjbfkgflaaXSB
import Derived.Test.YtenocjjbfkgflaaXEB
import Derived.Test.YtenocjjbfkgflaaXSC
namespace Go.Eng.T
open Go.Proofs Go.Eng Go.Eng.S
set_option maxRecDepth 100000
set_option maxHeartbeats 0

theorem row_eq {K : V → List Obj → List Obj → Prop} {v : V} {o : List Obj} {es : List V} (l : List Int) (h : es = l.map encB) (hK : K v o [rowB l]) : K v o [.arr true 1 es] := by subst h; exact hK
theorem GrowB.ac (n : Int) (h0 : 0 < n) (h1 : n ≤ 1000000) {K : V → List Obj → List Obj → Prop} (hK : ∀ es : List V, K (.ls (1, 0) 1 0 0) [] [.arr true 1 es]) : AC Try.prog 108 [nilS, iv n] [] K := by
  have e1 : IntKind.i64.wrap (n - IntKind.i64.wrap (((0:Nat):Int) - ((0:Nat):Int))) = n := by rw [wrap_i64 (x := ((0:Nat):Int) - ((0:Nat):Int)) (by decide), wrap_i64 (by omega)]; omega
  refine ac_body (ann []) [((998, 0), true), ((24, 0), false)] hm htt Try.func108 rfl (by kernel_rfl) rfl rfl ?_
  conv => whnf
  refine bF_dec (fun h => ?_) (fun _ => ?_)
  · omega
  conv => whnf
  refine bF_dec (fun h2 => ?_) (fun h => ?_)
  · conv => whnf
    refine ⟨⟨by rw [e1]; omega, by rw [e1]; exact ⟨by show n.toNat * 1 ≤ _; omega, by omega⟩⟩, fun xs hx => ?_⟩
    have hl := congrArg List.length hx
    rw [List.length_replicate, e1] at hl
    cases xs with
    | nil => exact absurd hl (by show ¬ 0 = n.toNat; omega)
    | cons y ys =>
      rw [List.length_cons] at hl
      conv => whnf
      refine ⟨⟨by decide, ⟨by show (ys.length + 1) * 1 ≤ _; omega, by rw [List.length_cons]; omega⟩, rfl⟩, ?_⟩
      conv => whnf
      refine ⟨rfl, ?_⟩
      conv => whnf
      refine ⟨⟨by decide, by omega⟩, ?_⟩
      conv => whnf
      exact hK _
  · exact absurd (by rw [e1]; exact h0) h
theorem app_two {l m : List Int} {es' xs : List V} (h : es' = ((l.map encB).drop 0).take l.length ++ xs) (hx : xs = m.map encB) : es' = (l ++ m).map encB := by
  rw [h, hx, List.drop_zero, List.take_of_length_le (by simp), List.map_append]
theorem big_byte {g : Int} {c : Int} (hc : 0 < c) : IntKind.u8.wrap (g.fdiv c) = g / c % 256 := by
  rw [wrap_u8_mod, Int.fdiv_eq_ediv_of_nonneg _ (Int.le_of_lt hc)]
theorem big4.ac (g : Int) {K : V → List Obj → List Obj → Prop} (hK : K (.ls (1, 0) 1 0 4) [] [rowB (four g)]) : AC Try.prog 82 [iv g, iv 4] [] K := by
  refine ac_body (annW [] [(3, [0, 5, 6], [(23, 1)])] [(3, (23, 1), [23, 9])]) [((998, 0), true), ((9, 0), true), ((22, 0), true), ((23, 0), true), ((23, 1), true)] hm htt Try.func82 rfl (by kernel_rfl) rfl rfl ?_
  conv => whnf
  refine ⟨by kernel_rfl, 5, ?_⟩
  conv => whnf
  iterate 4
    refine ⟨by decide, ?_⟩
    conv => whnf
    refine ⟨by kernel_rfl, ?_⟩
    conv => whnf
  exact row_eq (four g) (by
    show [yv (IntKind.u8.wrap (g.fdiv 16777216)), yv (IntKind.u8.wrap (g.fdiv 65536)), yv (IntKind.u8.wrap (g.fdiv 256)), yv (IntKind.u8.wrap (g.fdiv 1))] = _
    rw [big_byte (by decide), big_byte (by decide), big_byte (by decide), big_byte (by decide), Int.ediv_one]; rfl) hK
theorem big2.ac (n : Nat) (hn : n ≤ 6990) {K : V → List Obj → List Obj → Prop} (hK : K (.ls (1, 0) 1 0 2) [] [rowB [(n : Int) / 256, (n : Int) % 256]]) : AC Try.prog 82 [iv n, iv 2] [] K := by
  refine ac_body (annW [] [(3, [0, 5, 6], [(23, 1)])] [(3, (23, 1), [23, 9])]) [((998, 0), true), ((9, 0), true), ((22, 0), true), ((23, 0), true), ((23, 1), true)] hm htt Try.func82 rfl (by kernel_rfl) rfl rfl ?_
  conv => whnf
  refine ⟨by kernel_rfl, 3, ?_⟩
  conv => whnf
  iterate 2
    refine ⟨by decide, ?_⟩
    conv => whnf
    refine ⟨by kernel_rfl, ?_⟩
    conv => whnf
  exact row_eq [(n : Int) / 256, (n : Int) % 256] (by
    show [yv (IntKind.u8.wrap ((n : Int).fdiv 256)), yv (IntKind.u8.wrap ((n : Int).fdiv 1))] = _
    rw [big_byte (by decide), big_byte (by decide), Int.ediv_one, show (n : Int) / 256 % 256 = n / 256 by omega]; rfl) hK
theorem Concat3.ac (a b c : List Int) (h : 0 < a.length + b.length + c.length) (hl : a.length + b.length + c.length ≤ 100000) {K : V → List Obj → List Obj → Prop} (hK : K (.ls (1, 0) 1 0 (a ++ b ++ c).length) [.arr true 1 [.is 1 (a.map encB), .is 1 (b.map encB), .is 1 (c.map encB)]] [rowB (a ++ b ++ c)]) : AC Try.prog 81 [.ls (0, 0) 1 0 3] [.arr true 1 [.is 1 (a.map encB), .is 1 (b.map encB), .is 1 (c.map encB)]] K := by
  refine ac_body (annW [] [(3, [0, 3, 9, 10, 11], [(0, 0)]), (11, [0, 6, 25, 26, 27], [(0, 0), (35, 1)])] [(11, (35, 1), [35, 26])]) [((998, 0), true), ((0, 0), true), ((26, 0), false), ((35, 0), false), ((35, 1), false)] hm htt Try.func81 rfl (by kernel_rfl) rfl rfl ?_
  conv => whnf
  refine ⟨by kernel_rfl, 4, ?_⟩
  conv => whnf
  refine ⟨by decide, ?_⟩
  conv => whnf
  have la : (a.map encB).length = a.length := List.length_map ..
  have lb : (b.map encB).length = b.length := List.length_map ..
  have lc : (c.map encB).length = c.length := List.length_map ..
  have w1 := wrap_i64 (x := 0 + ((a.map encB).length : Int)) (by omega)
  have w2 : IntKind.i64.wrap (IntKind.i64.wrap (0 + ((a.map encB).length : Int)) + ((b.map encB).length : Int)) = a.length + b.length := by rw [w1, wrap_i64 (by omega)]; omega
  have w3 : IntKind.i64.wrap (IntKind.i64.wrap (IntKind.i64.wrap (0 + ((a.map encB).length : Int)) + ((b.map encB).length : Int)) + ((c.map encB).length : Int)) = a.length + b.length + c.length := by rw [w2, wrap_i64 (by omega)]; omega
  refine bF_dec (fun h1 => ?_) (fun h1 => ?_)
  · rw [w1] at h1; omega
  conv => whnf
  refine ⟨by kernel_rfl, ?_⟩
  conv => whnf
  refine ⟨by decide, ?_⟩
  conv => whnf
  refine bF_dec (fun h1 => ?_) (fun h1 => ?_)
  · rw [w2] at h1; omega
  conv => whnf
  refine ⟨by kernel_rfl, ?_⟩
  conv => whnf
  refine ⟨by decide, ?_⟩
  conv => whnf
  refine bF_dec (fun h1 => ?_) (fun h1 => ?_)
  · rw [w3] at h1; omega
  conv => whnf
  refine ⟨by kernel_rfl, ?_⟩
  conv => whnf
  refine GrowB.ac _ (by rw [w3]; omega) (by rw [w3]; omega) fun es => ?_
  conv => whnf
  refine ⟨by kernel_rfl, 4, ?_⟩
  conv => whnf
  refine ⟨by decide, ?_⟩
  conv => whnf
  refine ⟨rfl, ?_⟩
  conv => whnf
  refine ⟨⟨by decide, rfl, rfl, by omega, ⟨by show (0 + _) * 1 ≤ _; omega, by omega⟩, rfl, by simp [mentsOne]⟩, fun l1 e1 hl1 he1 => ?_⟩
  obtain rfl : e1 = a.map encB := by rw [he1, List.take_zero]; rfl
  obtain rfl : l1 = a.length := by rw [hl1, la]; omega
  conv => whnf
  refine ⟨by kernel_rfl, ?_⟩
  conv => whnf
  refine ⟨by decide, ?_⟩
  conv => whnf
  refine ⟨rfl, ?_⟩
  conv => whnf
  refine ⟨⟨by decide, rfl, rfl, by omega, ⟨by show (a.length + _) * 1 ≤ _; omega, by omega⟩, rfl, by simp [mentsOne]⟩, fun l2 e2 hl2 he2 => ?_⟩
  obtain rfl : e2 = (a ++ b).map encB := app_two he2 rfl
  obtain rfl : l2 = (a ++ b).length := by rw [hl2, lb, List.length_append]
  conv => whnf
  refine ⟨by kernel_rfl, ?_⟩
  conv => whnf
  refine ⟨by decide, ?_⟩
  conv => whnf
  refine ⟨rfl, ?_⟩
  conv => whnf
  have lab : (a ++ b).length = a.length + b.length := List.length_append
  have lab2 : ((a ++ b).map encB).length = (a ++ b).length := List.length_map ..
  refine ⟨⟨by decide, rfl, rfl, by omega, ⟨by show ((a ++ b).length + _) * 1 ≤ _; omega, by omega⟩, rfl, by simp [mentsOne]⟩, fun l3 e3 hl3 he3 => ?_⟩
  obtain rfl : e3 = (a ++ b ++ c).map encB := app_two he3 rfl
  obtain rfl : l3 = (a ++ b ++ c).length := by rw [hl3, lc, List.length_append, List.length_append, List.length_append]
  conv => whnf
  refine ⟨by kernel_rfl, ?_⟩
  conv => whnf
  exact hK
end Go.Eng.T

namespace Go.Eng.T
open Go.Proofs Go.Eng Go.Eng.S
set_option maxRecDepth 100000
set_option maxHeartbeats 0

theorem div_u8 {x y : Int} (h0 : 0 ≤ x) (h1 : x ≤ 1000000000) (hy : 0 < y) : IntKind.u8.wrap ((IntKind.i64.wrap (x.tdiv y)).tmod 256) = x / y % 256 := by
  have a := Int.ediv_nonneg h0 (Int.le_of_lt hy)
  have b := Int.ediv_le_self y h0
  rw [tdiv_e h0, wrap_i64 (by omega), tmod_e a, wrap_u8 (by omega)]
theorem four_wrap {x : Int} (h0 : 0 ≤ x) (h1 : x ≤ 1000000000) : [yv (IntKind.u8.wrap ((IntKind.i64.wrap (x.tdiv 16777216)).tmod 256)), yv (IntKind.u8.wrap ((IntKind.i64.wrap (x.tdiv 65536)).tmod 256)), yv (IntKind.u8.wrap ((IntKind.i64.wrap (x.tdiv 256)).tmod 256)), yv (IntKind.u8.wrap (x.tmod 256))] = (four x).map encB := by
  rw [div_u8 h0 h1 (by decide), div_u8 h0 h1 (by decide), div_u8 h0 h1 (by decide), tmod_e h0, wrap_u8 (by omega)]; rfl

theorem l16Four.ac (g : Int) (h0 : 0 ≤ g) (h1 : g ≤ 1000000000) {K : V → List Obj → List Obj → Prop} (hK : K (.ls (1, 0) 1 0 4) [] [rowB (four g)]) : AC Try.prog 52 [iv g] [] K := by
  refine ac_body (ann []) [((998, 0), true), ((20, 0), true)] hm htt Try.func52 rfl (by kernel_rfl) rfl rfl ?_
  conv => whnf
  exact row_eq (four g) (four_wrap h0 h1) hK
theorem l16Gen.ac (g : Int) {K : V → List Obj → List Obj → Prop} (hK : ∀ r, (r = true ↔ 1 ≤ g ∧ g ≤ 1000000) → K (bv r) [] []) : AC Try.prog 51 [iv g] [] K := by
  refine ac_body (ann []) [((998, 0), true)] hm htt Try.func51 rfl (by kernel_rfl) rfl rfl ?_
  conv => whnf
  refine bF_dec (fun h1 => ?_) (fun h1 => ?_)
  · conv => whnf
    refine bF_dec (fun h2 => ?_) (fun h2 => ?_)
    · conv => whnf
      exact kT hK ⟨h1, h2⟩
    · conv => whnf
      exact kF hK fun h => h2 h.2
  · conv => whnf
    exact kF hK fun h => h1 h.1
theorem two_wrap {n : Nat} (h : n ≤ 6990) : [yv (IntKind.u8.wrap (IntKind.i64.wrap ((n : Int).tdiv 256))), yv (IntKind.u8.wrap ((n : Int).tmod 256))] = ([(n : Int) / 256, (n : Int) % 256]).map encB := by
  rw [tdiv_e (by omega), tmod_e (by omega), wrap_i64 (by omega), wrap_u8 (by omega), wrap_u8 (by omega)]; rfl
theorem ImageOfS.ac (g : Int) (ops : List OpR) (hi : ∀ o ∈ ops, o.ints) (hn : ops.length ≤ 10000000) {K : V → List Obj → List Obj → Prop} (hK1 : ImOk g ops → K (.tup [.ls (1, 0) 1 0 (imB g ops).length, bv true]) [] [rowB (imB g ops)])
    (hK0 : ¬ ImOk g ops → K (.tup [nilS, bv false]) [] []) : AC Try.prog 12 [iv g, .is 11 (ops.map encOp)] [] K := by
  refine ac_body (ann []) [((998, 0), true), ((13, 0), false), ((29, 0), false), ((38, 0), true), ((39, 0), false), ((42, 0), false), ((47, 0), false), ((50, 0), false), ((51, 0), false)] hm htt Try.func12 rfl (by kernel_rfl) rfl rfl ?_
  conv => whnf
  refine LogOfS.ac ops hi hn (fun h1 h2 => ?_) (fun h => ?_)
  rotate_left
  · conv => whnf
    exact hK0 fun k => h ⟨fun o ho => (k.1.1 o ho).1, k.1.2⟩
  have hg : ∀ o ∈ ops, o.good := fun o ho => ⟨h1 o ho, hi o ho⟩
  conv => whnf
  refine l16Gen.ac g fun r hr => ?_
  cases r
  · conv => whnf
    exact hK0 fun k => by have := hr.2 k.2.1; cases this
  have hgg := hr.1 rfl
  conv => whnf
  refine bF_dec (fun h3 => ?_) (fun h3 => ?_)
  · conv => whnf
    exact hK0 fun k => by have := k.2.2; omega
  have hk : ImOk g ops := ⟨⟨hg, h2⟩, hgg, by omega⟩
  have hl := hk.2.2
  conv => whnf
  refine l16Four.ac g (by omega) (by omega) ?_
  conv => whnf
  have r0 : ∀ {a b : Nat}, a + b ≤ 8000 → roomOk (a + b) 1 := fun h => ⟨by omega, by omega⟩
  obtain ⟨L1, hL1⟩ : ∃ L : List Int, L = four g ++ [((logB ops).length : Int) / 256, ((logB ops).length : Int) % 256] := ⟨_, rfl⟩
  obtain ⟨L2, hL2⟩ : ∃ L : List Int, L = L1 ++ logB ops := ⟨_, rfl⟩
  obtain ⟨L3, hL3⟩ : ∃ L : List Int, L = L2 ++ List.replicate (6990 - (logB ops).length) 0 := ⟨_, rfl⟩
  have n1 : L1.length = 6 := by rw [hL1]; rfl
  have n2 : L2.length = 6 + (logB ops).length := by rw [hL2, List.length_append, n1]
  have n3 : L3.length = 6996 := by rw [hL3, List.length_append, n2, List.length_replicate]; omega
  have hIm : L3 ++ four g = imB g ops := by rw [hL3, hL2, hL1]; rfl
  have hw : IntKind.i64.wrap (6996 - (L2.length : Int)) = ((6990 - (logB ops).length : Nat) : Int) := by rw [n2, wrap_i64 (by omega)]; omega
  refine ⟨⟨by decide, rfl, rfl, Nat.le_refl 4, r0 (show 4 + 2 ≤ 8000 by omega), rfl, by simp [mentsOne]⟩, fun l1 e1 hl1 he1 => ?_⟩
  obtain rfl : e1 = L1.map encB := by rw [hL1]; exact app_two (l := four g) he1 (two_wrap hl)
  obtain rfl : l1 = L1.length := by rw [n1]; exact hl1
  conv => whnf
  refine ⟨⟨rfl, rfl, by rw [List.length_map]; omega⟩, fun xs hx => ?_⟩
  obtain rfl := row_all hx
  conv => whnf
  refine ⟨⟨by decide, rfl, rfl, by rw [List.length_map]; omega, r0 (by rw [List.length_map]; omega), rfl, by simp [mentsOne]⟩, fun l2 e2 hl2 he2 => ?_⟩
  obtain rfl : e2 = L2.map encB := by rw [hL2]; exact app_row he2
  obtain rfl : l2 = L2.length := by rw [hl2, List.length_map, hL2, List.length_append]
  conv => whnf
  refine ⟨⟨by rw [hw]; omega, by rw [hw]; exact ⟨by show _ * 1 ≤ _; omega, by omega⟩⟩, fun xs hx => ?_⟩
  obtain rfl : xs = (List.replicate (6990 - (logB ops).length) (0 : Int)).map encB := by rw [hx, hw, List.map_replicate]; rfl
  conv => whnf
  refine ⟨⟨by decide, rfl, rfl, by rw [List.length_map]; omega, r0 (by rw [List.length_map, List.length_replicate]; omega), rfl, by simp [mentsOne]⟩, fun l3 e3 hl3 he3 => ?_⟩
  obtain rfl : e3 = L3.map encB := by rw [hL3]; exact app_row he3
  obtain rfl : l3 = L3.length := by rw [hl3, List.length_map, hL3, List.length_append]
  conv => whnf
  refine l16Four.ac g (by omega) (by omega) ?_
  conv => whnf
  refine ⟨⟨rfl, rfl, Nat.le_refl 4⟩, fun xs hx => ?_⟩
  obtain rfl : xs = (four g).map encB := row_all (l := four g) hx
  conv => whnf
  refine ⟨⟨by decide, rfl, rfl, by rw [List.length_map]; omega, r0 (by rw [n3, List.length_map]; exact (by omega : 6996 + 4 ≤ 8000)), rfl, by simp [mentsOne]⟩, fun l4 e4 hl4 he4 => ?_⟩
  obtain rfl : e4 = (imB g ops).map encB := by rw [← hIm]; exact app_row he4
  obtain rfl : l4 = (imB g ops).length := by rw [hl4, List.length_map, ← hIm, List.length_append]
  conv => whnf
  exact hK1 hk
end Go.Eng.T

namespace Go.Eng.T
open Go.Proofs Go.Eng Go.Eng.S
set_option maxRecDepth 100000
set_option maxHeartbeats 0

theorem img_row {A : List Int} {es' : List V} {m : Nat} {n : Nat} (hn : A.length ≤ n) (hm : m = Nat.min (A.map encB).length n) (h : es' = (List.replicate n (encB 0)).take 0 ++ (A.map encB).take m ++ (List.replicate n (encB 0)).drop (0 + m)) : es' = (A ++ List.replicate (n - A.length) 0).map encB := by
  have e : m = A.length := by rw [hm, List.length_map]; exact Nat.min_eq_left hn
  subst e
  rw [h, List.take_zero, List.nil_append, List.take_of_length_le (by simp), Nat.zero_add, List.drop_replicate, List.map_append, List.map_replicate]
theorem img_fill {A F : List Int} (hA : A.length ≤ 6996) (hF : F.length = 4) {es' : List V} {m : Nat} (hm : m = Nat.min (F.map encB).length 4)
    (h : es' = ((A ++ List.replicate (7000 - A.length) 0).map encB).take 6996 ++ (F.map encB).take m ++ ((A ++ List.replicate (7000 - A.length) 0).map encB).drop (6996 + m)) : es' = (A ++ List.replicate (6996 - A.length) 0 ++ F).map encB := by
  have e : m = 4 := by rw [hm, List.length_map, hF]; rfl
  subst e
  rw [h, List.drop_of_length_le (by simp; omega), List.append_nil, List.take_of_length_le (l := F.map encB) (by simp [hF]), ← List.map_take, ← List.map_append]
  congr 2
  rw [List.take_append, List.take_of_length_le hA, List.take_replicate]
  congr 2
  omega
theorem imageOf.ac (g : Int) (ops : List OpR) (hi : ∀ o ∈ ops, o.ints) (hn : ops.length ≤ 10000000) {K : V → List Obj → List Obj → Prop} (hK1 : ImOk g ops → K (.tup [.ls (1, 0) 1 0 (imB g ops).length, bv true]) [] [rowB (imB g ops)])
    (hK0 : ¬ ImOk g ops → K (.tup [nilS, bv false]) [] []) : AC Try.prog 53 [iv g, .is 11 (ops.map encOp)] [] K := by
  refine ac_body (ann []) [((998, 0), true), ((13, 0), false), ((30, 0), false), ((33, 0), false), ((36, 0), false), ((38, 0), true), ((39, 0), false), ((44, 0), false)] hm htt Try.func53 rfl (by kernel_rfl) rfl rfl ?_
  conv => whnf
  refine logOf.ac ops hi hn (fun h1 h2 => ?_) (fun h => ?_)
  rotate_left
  · conv => whnf
    exact hK0 fun k => h ⟨fun o ho => (k.1.1 o ho).1, k.1.2⟩
  have hg : ∀ o ∈ ops, o.good := fun o ho => ⟨h1 o ho, hi o ho⟩
  have hll := logB_len (l := ops)
  conv => whnf
  refine in.ac g 1 1000000 fun r hr => ?_
  cases r
  · conv => whnf
    exact hK0 fun k => by have := hr.2 k.2.1; cases this
  have hgg := hr.1 rfl
  have hw : IntKind.i64.wrap (IntKind.i64.wrap (6 + ((logB ops).length : Int)) + 4) = ((logB ops).length + 10 : Nat) := by rw [wrap_i64 (x := 6 + _) (by omega), wrap_i64 (by omega)]; omega
  conv => whnf
  refine bF_dec (fun h3 => ?_) (fun h3 => ?_)
  · conv => whnf
    exact hK0 fun k => by have := k.2.2; rw [hw] at h3; omega
  have hl : (logB ops).length ≤ 6990 := by rw [hw] at h3; omega
  have hk : ImOk g ops := ⟨⟨hg, h2⟩, hgg, hl⟩
  conv => whnf
  refine ⟨⟨by decide, rfl, by decide, by decide, by decide, by decide⟩, ?_⟩
  conv => whnf
  refine big4.ac g ?_
  conv => whnf
  refine big2.ac (logB ops).length hl ?_
  conv => whnf
  refine ⟨⟨by decide, by decide, rfl⟩, ?_⟩
  conv => whnf
  refine ⟨⟨rfl, Nat.le_refl 4⟩, fun x1 hx1 => ?_⟩
  obtain rfl : x1 = (four g).map encB := row_all (l := four g) hx1
  conv => whnf
  refine ⟨⟨rfl, Nat.le_refl 2⟩, fun x2 hx2 => ?_⟩
  obtain rfl : x2 = [((logB ops).length : Int) / 256, ((logB ops).length : Int) % 256].map encB := row_all (l := [((logB ops).length : Int) / 256, ((logB ops).length : Int) % 256]) hx2
  conv => whnf
  refine ⟨⟨rfl, by rw [List.length_map]; omega⟩, fun x3 hx3 => ?_⟩
  obtain rfl : x3 = (logB ops).map encB := row_all hx3
  conv => whnf
  have n4 : (four g).length = 4 := rfl
  have n2 : [((logB ops).length : Int) / 256, ((logB ops).length : Int) % 256].length = 2 := rfl
  refine Concat3.ac (four g) [((logB ops).length : Int) / 256, ((logB ops).length : Int) % 256] (logB ops) (by omega) (by omega) ?_
  conv => whnf
  obtain ⟨A, hA⟩ : ∃ L : List Int, L = four g ++ [((logB ops).length : Int) / 256, ((logB ops).length : Int) % 256] ++ logB ops := ⟨_, rfl⟩
  have nA : A.length = 6 + (logB ops).length := by rw [hA, List.length_append]; rfl
  refine ⟨by decide, ?_⟩
  conv => whnf
  refine ⟨⟨rfl, rfl, by rw [List.length_map]; omega⟩, fun xs hx => ?_⟩
  obtain rfl : xs = A.map encB := by rw [hA]; exact row_all hx
  conv => whnf
  refine ⟨⟨rfl, rfl, by rw [List.length_replicate]; decide⟩, fun m es' hm hes => ?_⟩
  obtain rfl : es' = (A ++ List.replicate (7000 - A.length) 0).map encB := img_row (by omega) hm hes
  conv => whnf
  refine ⟨rfl, ?_⟩
  conv => whnf
  refine ⟨⟨by decide, by decide⟩, ?_⟩
  conv => whnf
  refine ⟨by kernel_rfl, ?_⟩
  conv => whnf
  refine big4.ac g ?_
  conv => whnf
  refine ⟨by decide, ?_⟩
  conv => whnf
  refine ⟨⟨rfl, rfl, Nat.le_refl 4⟩, fun xs hx => ?_⟩
  obtain rfl : xs = (four g).map encB := row_all (l := four g) hx
  conv => whnf
  refine ⟨⟨rfl, rfl, by rw [List.length_map, List.length_append, List.length_replicate]; show 6996 + 4 ≤ _; omega⟩, fun m es' hm hes => ?_⟩
  obtain rfl : es' = (A ++ List.replicate (6996 - A.length) 0 ++ four g).map encB := img_fill (by omega) rfl hm hes
  conv => whnf
  refine ⟨by kernel_rfl, ?_⟩
  conv => whnf
  have e : A ++ List.replicate (6996 - A.length) 0 ++ four g = imB g ops := by
    rw [hA]; unfold imB
    rw [← hA, nA, show 6996 - (6 + (logB ops).length) = 6990 - (logB ops).length by omega]
  have := hK1 hk
  rw [← e] at this
  have n7 : (A ++ List.replicate (6996 - A.length) 0 ++ four g).length = 7000 := by rw [e, imB_len hk]
  rw [n7] at this
  exact this
theorem ImageOfI.ac (g : Int) (ops : List OpR) (hi : ∀ o ∈ ops, o.ints) (hn : ops.length ≤ 10000000) {K : V → List Obj → List Obj → Prop} (hK1 : ImOk g ops → K (.tup [.ls (1, 0) 1 0 (imB g ops).length, bv true]) [] [rowB (imB g ops)])
    (hK0 : ¬ ImOk g ops → K (.tup [nilS, bv false]) [] []) : AC Try.prog 13 [iv g, .is 11 (ops.map encOp)] [] K := by
  refine ac_body (ann []) [((998, 0), true), ((10, 0), false)] hm htt Try.func13 rfl (by kernel_rfl) rfl rfl ?_
  conv => whnf
  refine imageOf.ac g ops hi hn (fun h => ?_) (fun h => ?_)
  · conv => whnf
    exact hK1 h
  · conv => whnf
    exact hK0 h
end Go.Eng.T

namespace Go.Eng.T
open Go.Proofs Go.Eng Go.Eng.S
set_option maxRecDepth 100000
set_option maxHeartbeats 0

theorem toElem.ac (a b c d : Int) {K : V → List Obj → List Obj → Prop} (hK : K (.agg [iv a, iv b, iv c, iv d]) [] []) : AC Try.prog 85 [.agg [iv a, iv b, iv c, iv d]] [] K := by
  refine ac_body (ann []) [((998, 0), true), ((3, 0), true), ((4, 0), true), ((5, 0), true)] hm htt Try.func85 rfl (by kernel_rfl) rfl rfl ?_
  conv => whnf
  exact hK
theorem toPlace.ac (a b c d : Int) {K : V → List Obj → List Obj → Prop} (hK : K (.agg [iv a, iv b, iv c, iv d]) [] []) : AC Try.prog 86 [.agg [iv a, iv b, iv c, iv d]] [] K := by
  refine ac_body (ann []) [((998, 0), true), ((3, 0), true), ((4, 0), true), ((5, 0), true)] hm htt Try.func86 rfl (by kernel_rfl) rfl rfl ?_
  conv => whnf
  exact hK
theorem toOp.ac (o : OpR) {K : V → List Obj → List Obj → Prop} (hK : K (encOp o) [] []) : AC Try.prog 55 [encOp o] [] K := by
  refine ac_body (ann []) [((998, 0), true), ((3, 0), true), ((4, 0), true), ((5, 0), true)] hm htt Try.func55 rfl (by kernel_rfl) rfl rfl ?_
  conv => whnf
  refine toElem.ac _ _ _ _ ?_
  conv => whnf
  refine toPlace.ac _ _ _ _ ?_
  conv => whnf
  exact hK
theorem eqElem2 (a b c d a' b' c' d' : Int) : Two 87 [.agg [iv a, iv b, iv c, iv d], .agg [iv a', iv b', iv c', iv d']] (a = a' ∧ b = b' ∧ c = c' ∧ d = d') := fun hT hF => by
  refine ac_body (ann []) fkA hm htt Try.func87 rfl (by kernel_rfl) rfl rfl ?_
  conv => whnf
  repeat' first
    | (refine bF_ne (fun _ => ?_) (fun _ => ?_) <;> conv => whnf)
  all_goals first
    | exact hF (by omega)
    | exact hT (by omega)
theorem eqPlace2 (a b c d a' b' c' d' : Int) : Two 88 [.agg [iv a, iv b, iv c, iv d], .agg [iv a', iv b', iv c', iv d']] (a = a' ∧ b = b' ∧ c = c' ∧ d = d') := fun hT hF => by
  refine ac_body (ann []) fkA hm htt Try.func88 rfl (by kernel_rfl) rfl rfl ?_
  conv => whnf
  repeat' first
    | (refine bF_ne (fun _ => ?_) (fun _ => ?_) <;> conv => whnf)
  all_goals first
    | exact hF (by omega)
    | exact hT (by omega)
theorem opR_ext {o p : OpR} : o = p ↔ o.k = p.k ∧ (o.eS = p.eS ∧ o.eK = p.eK ∧ o.eV = p.eV ∧ o.eT = p.eT) ∧ (o.pS = p.pS ∧ o.pB = p.pB ∧ o.pK = p.pK ∧ o.pL = p.pL) ∧ o.s = p.s ∧ o.n = p.n := by
  cases o; cases p; simp only [OpR.mk.injEq]; simp only [and_assoc]
theorem eqOp2 (o p : OpR) : Two 56 [encOp o, encOp p] (o = p) := fun hT hF => by
  rw [opR_ext] at hT hF
  refine ac_body (ann []) fkA hm htt Try.func56 rfl (by kernel_rfl) rfl rfl ?_
  conv => whnf
  repeat' first
    | (refine bF_ne (fun _ => ?_) (fun _ => ?_) <;> conv => whnf)
    | (refine eqElem2 _ _ _ _ _ _ _ _ (fun _ => ?_) (fun _ => ?_) <;> conv => whnf)
    | (refine eqPlace2 _ _ _ _ _ _ _ _ (fun _ => ?_) (fun _ => ?_) <;> conv => whnf)
  all_goals first
    | exact hF (by omega)
    | exact hT (by omega)
theorem szOpS.ac (n : Nat) (ops : List OpR) (h : ops.length = n) (hn : n ≤ 9223372036854775807) {K : V → List Obj → List Obj → Prop} (hK1 : n ≤ 1048576 → K (iv (1048576 - n)) [] []) (hK0 : ¬ n ≤ 1048576 → K (iv (-1)) [] []) : AC Try.prog 17 [.is 11 (ops.map encOp), iv 1048576] [] K := by
  have hml : (ops.map encOp).length = n := by rw [List.length_map, h]
  have hw := wrap_i64 (x := 1048576 - ((ops.map encOp).length : Int)) (by omega)
  refine ac_body (ann []) [((998, 0), true)] hm htt Try.func17 rfl (by kernel_rfl) rfl rfl ?_
  conv => whnf
  refine bF_dec (fun h1 => ?_) (fun h1 => ?_)
  · conv => whnf
    exact hK0 (by rw [hw] at h1; omega)
  · conv => whnf
    rw [hw] at h1 ⊢
    rw [hml]
    exact hK1 (by omega)
theorem set_take {α : Type} {l : List α} {i : Nat} {x : α} (h : i < l.length) : (l.set i x).take (i + 1) = l.take i ++ [x] := by
  rw [List.take_add_one, List.take_set_of_le (Nat.le_refl _), List.getElem?_set_self h]; rfl
theorem take_succD {α : Type} [Inhabited α] {l : List α} {i : Nat} (h : i < l.length) : l.take i ++ [l.getD i default] = l.take (i + 1) := by
  rw [List.take_add_one, List.getElem?_eq_getElem h, List.getD_eq_getElem?_getD, List.getElem?_eq_getElem h]; rfl
theorem toOpS.ac (ops : List OpR) (hl : ops.length ≤ 1048576) {K : V → List Obj → List Obj → Prop} (hK : K (.ls (1, 0) 11 0 ops.length) [] [rowO ops]) : AC Try.prog 18 [.is 11 (ops.map encOp)] [] K := by
  have hml : (ops.map encOp).length = ops.length := List.length_map ..
  refine ac_body (ann [(3, [0, 3, 4], [(9, 0)])]) [((998, 0), true), ((9, 0), false)] hm htt Try.func18 rfl (by kernel_rfl) rfl rfl ?_
  conv => whnf
  refine ⟨⟨by decide, rfl, by omega, by omega, by omega, by show _ * 88 ≤ _; omega⟩, ?_⟩
  conv => whnf
  refine cwF_loop (fun m st => ∃ (z : Int) (i : Nat) (L : List OpR) (es : List V), (z = i ∧ m = ops.length - i ∧ i ≤ ops.length ∧ L.length = ops.length ∧ L.take i = ops.take i ∧ es = L.map encOp) ∧
    st = ⟨[.is 11 (ops.map encOp), .un, .un, .ls (9, 0) 11 0 (ops.map encOp).length, iv z] ++ List.replicate 18 .un, mkOb [((9, 0), some (.arr true 11 es))]⟩) ops.length (by kernel_rfl) ⟨_, 0, List.replicate (ops.map encOp).length OpR.zero, _, ⟨rfl, rfl, by omega, by rw [List.length_replicate, hml], rfl, List.map_replicate.symm⟩, rfl⟩ ?_
  rintro m st ⟨z, i, L, es, ⟨rfl, rfl, i1, l1, l2, rfl⟩, rfl⟩
  have hmL : (L.map encOp).length = L.length := List.length_map ..
  conv => whnf
  refine bF_dec (fun h => ?_) (fun h => ?_)
  · conv => whnf
    refine ⟨⟨rfl, by omega, by omega⟩, ?_⟩
    conv => whnf
    refine ⟨_, map_get (by omega), ?_⟩
    conv => whnf
    refine toOp.ac _ ?_
    conv => whnf
    refine ⟨⟨rfl, by omega, by omega⟩, ?_⟩
    conv => whnf
    refine ⟨⟨rfl, rfl, by simp [V.ments, mentsL]⟩, _, map_get0 (by omega), ?_⟩
    conv => whnf
    intro es' hes
    obtain rfl : es' = (L.set i (ops.getD i default)).map encOp := by rw [hes, List.map_set, Nat.zero_add]; rfl
    conv => whnf
    exact ⟨by kernel_rfl, ops.length - (i + 1), by omega, _, i + 1, L.set i (ops.getD i default), _, ⟨wrap_i64 (by omega), rfl, by omega, by rw [List.length_set, l1], by rw [set_take (by omega), l2, take_succD (by omega)], rfl⟩, rfl⟩
  · conv => whnf
    obtain rfl : i = ops.length := by omega
    obtain rfl : L = ops := by rwa [List.take_length, List.take_of_length_le (by omega)] at l2
    rw [hml]
    exact hK
theorem eqByteS2 (a b : List Int) (ha : a.length ≤ 10000000) : Two 19 [.is 1 (a.map encB), .is 1 (b.map encB)] (a = b) := fun hT hF => by
  have hla : (a.map encB).length = a.length := List.length_map ..
  have hlb : (b.map encB).length = b.length := List.length_map ..
  refine ac_body (ann [(4, [0, 1, 5], [])]) [((998, 0), true)] hm htt Try.func19 rfl (by kernel_rfl) rfl rfl ?_
  conv => whnf
  refine bF_ne (fun h => ?_) (fun h => ?_)
  · conv => whnf
    exact hF fun e => by subst e; omega
  have hab : a.length = b.length := by omega
  conv => whnf
  refine cwF_loop (fun m st => ∃ (z : Int) (i : Nat), (z = i ∧ m = a.length - i ∧ i ≤ a.length ∧ a.take i = b.take i) ∧
    st = ⟨[.is 1 (a.map encB), .is 1 (b.map encB), .un, .un, .un, iv z] ++ List.replicate 20 .un, mkOb []⟩) a.length (by kernel_rfl) ⟨_, 0, ⟨rfl, rfl, by omega, rfl⟩, rfl⟩ ?_
  rintro m st ⟨z, i, ⟨rfl, rfl, i1, e1⟩, rfl⟩
  conv => whnf
  refine bF_dec (fun h => ?_) (fun h => ?_)
  · conv => whnf
    refine ⟨⟨rfl, by omega, by omega⟩, ?_⟩
    conv => whnf
    refine ⟨_, map_get (by omega), ?_⟩
    conv => whnf
    refine ⟨⟨rfl, by omega, by omega⟩, ?_⟩
    conv => whnf
    refine ⟨_, map_get (by omega), ?_⟩
    conv => whnf
    refine bF_ne (fun h3 => ?_) (fun h3 => ?_)
    · conv => whnf
      refine ⟨by kernel_rfl, ?_⟩
      conv => whnf
      exact hF fun e => by subst e; exact h3 rfl
    · conv => whnf
      refine ⟨by kernel_rfl, ?_⟩
      conv => whnf
      have e3 : a.getD i default = b.getD i default := by first | exact h3 | exact Classical.not_not.1 h3
      exact ⟨by kernel_rfl, a.length - (i + 1), by omega, _, i + 1, ⟨wrap_i64 (by omega), rfl, by omega, by rw [← take_succD (by omega), ← take_succD (by omega), e1, e3]⟩, rfl⟩
  · conv => whnf
    exact hT (by rwa [List.take_of_length_le (by omega), List.take_of_length_le (by omega)] at e1)
theorem eqOpS2 (a b : List OpR) (ha : a.length ≤ 10000000) : Two 20 [.is 11 (a.map encOp), .is 11 (b.map encOp)] (a = b) := fun hT hF => by
  have hla : (a.map encOp).length = a.length := List.length_map ..
  have hlb : (b.map encOp).length = b.length := List.length_map ..
  refine ac_body (ann [(4, [0, 1, 5], [])]) [((998, 0), true)] hm htt Try.func20 rfl (by kernel_rfl) rfl rfl ?_
  conv => whnf
  refine bF_ne (fun h => ?_) (fun h => ?_)
  · conv => whnf
    exact hF fun e => by subst e; omega
  have hab : a.length = b.length := by omega
  conv => whnf
  refine cwF_loop (fun m st => ∃ (z : Int) (i : Nat), (z = i ∧ m = a.length - i ∧ i ≤ a.length ∧ a.take i = b.take i) ∧
    st = ⟨[.is 11 (a.map encOp), .is 11 (b.map encOp), .un, .un, .un, iv z] ++ List.replicate 21 .un, mkOb []⟩) a.length (by kernel_rfl) ⟨_, 0, ⟨rfl, rfl, by omega, rfl⟩, rfl⟩ ?_
  rintro m st ⟨z, i, ⟨rfl, rfl, i1, e1⟩, rfl⟩
  conv => whnf
  refine bF_dec (fun h => ?_) (fun h => ?_)
  · conv => whnf
    refine ⟨⟨rfl, by omega, by omega⟩, ?_⟩
    conv => whnf
    refine ⟨_, map_get (by omega), ?_⟩
    conv => whnf
    refine ⟨⟨rfl, by omega, by omega⟩, ?_⟩
    conv => whnf
    refine ⟨_, map_get (by omega), ?_⟩
    conv => whnf
    refine ⟨by kernel_rfl, ?_⟩
    conv => whnf
    refine eqOp2 _ _ (fun h3 => ?_) (fun h3 => ?_)
    rotate_left
    · conv => whnf
      refine ⟨by kernel_rfl, ?_⟩
      conv => whnf
      exact hF fun e => by subst e; exact h3 rfl
    · conv => whnf
      refine ⟨by kernel_rfl, ?_⟩
      conv => whnf
      have e3 : a.getD i default = b.getD i default := h3
      exact ⟨by kernel_rfl, a.length - (i + 1), by omega, _, i + 1, ⟨wrap_i64 (by omega), rfl, by omega, by rw [← take_succD (by omega), ← take_succD (by omega), e1, e3]⟩, rfl⟩
  · conv => whnf
    exact hT (by rwa [List.take_of_length_le (by omega), List.take_of_length_le (by omega)] at e1)
end Go.Eng.T

namespace Go.Eng.T
open Go.Proofs Go.Eng Go.Eng.S
set_option maxRecDepth 100000
set_option maxHeartbeats 0

/-- What stands behind a piece of code, as a letter. -/
theorem cw_seq {P : Program} {tt : TT} {A : Ann} {FK : List (Key × Bool)} {a b : Code} {st : St} {Q : Ex → St → Prop} (h : ∀ Q1 : Ex → St → Prop, (∀ s, cwF P tt A FK b s Q → Q1 .normal s) → (∀ j s, Q (.exit j) s → Q1 (.exit j) s) → (∀ s, Q .ret s → Q1 .ret s) → cwF P tt A FK a st Q1) : cwF P tt A FK (.seq a b) st Q := by
  simp only [cwF]
  exact h _ (fun _ h => h) (fun _ _ h => h) (fun _ h => h)
theorem cw_gen {P : Program} {tt : TT} {A : Ann} {FK : List (Key × Bool)} {a : Code} {st : St} {Q : Ex → St → Prop} (h : ∀ Q1 : Ex → St → Prop, (∀ s, Q .normal s → Q1 .normal s) → (∀ j s, Q (.exit j) s → Q1 (.exit j) s) → (∀ s, Q .ret s → Q1 .ret s) → cwF P tt A FK a st Q1) : cwF P tt A FK a st Q :=
  h _ (fun _ h => h) (fun _ _ h => h) (fun _ h => h)
/-- The marks on bytes. -/
def mkB (z : Int) (n : Nat) : List Int := (List.range n).map fun j => IntKind.u8.wrap (z + (j : Nat))
theorem mkB_len {z : Int} {n : Nat} : (mkB z n).length = n := by simp [mkB]
theorem mkB_take {z : Int} {n i : Nat} (h : i ≤ n) : (mkB z n).take i = mkB z i := by
  unfold mkB; rw [← List.map_take, List.take_range, Nat.min_eq_left h]
theorem mkB_step {z : Int} {i : Nat} : mkB z i ++ [IntKind.u8.wrap (z + (i : Nat))] = mkB z (i + 1) := by
  unfold mkB; rw [List.range_succ, List.map_append]; rfl
theorem mkB_get {z : Int} {n i : Nat} (h : i < n) : (mkB z n).getD i default = IntKind.u8.wrap (z + (i : Nat)) := by
  rw [List.getD_eq_getElem?_getD]; simp [mkB, h]
theorem markByteS.ac (a : List Int) (z : Int) (hz : 0 ≤ z ∧ z ≤ 1000000000) (ha : a.length ≤ 10000000) {K : V → List Obj → List Obj → Prop} (hK : K (iv (z + a.length)) [rowB (mkB z a.length)] []) : AC Try.prog 22 [.ls (0, 0) 1 0 a.length, iv z] [rowB a] K := by
  refine ac_body (ann [(2, [0, 1, 5], [(0, 0)])]) [((998, 0), true), ((0, 0), false)] hm htt Try.func22 rfl (by kernel_rfl) rfl rfl ?_
  conv => whnf
  refine cwF_loop (fun m st => ∃ (y x : Int) (i : Nat) (L : List Int), (y = i ∧ x = z + i ∧ m = a.length - i ∧ i ≤ a.length ∧ L.length = a.length ∧ L.take i = mkB z i) ∧
    st = ⟨[.ls (0, 0) 1 0 a.length, iv x, .un, .un, .un, iv y] ++ List.replicate 14 .un, mkOb [((0, 0), some (rowB L))]⟩) a.length (by kernel_rfl) ⟨_, _, 0, a, ⟨rfl, by omega, rfl, by omega, rfl, rfl⟩, rfl⟩ ?_
  rintro m st ⟨y, x, i, L, ⟨rfl, hx, rfl, i1, l1, l2⟩, rfl⟩
  have hmL : (L.map encB).length = L.length := List.length_map ..
  refine cw_gen fun Q0 n0 x0 _ => ?_
  refine cw_seq fun Q1 n1 x1 _ => ?_
  conv => whnf
  refine bF_dec (fun h => ?_) (fun h => ?_)
  · conv => whnf
    refine n1 _ ?_
    refine cw_seq fun Q2 n2 x2 _ => ?_
    conv => whnf
    generalize hu : IntKind.u8.wrap x = u
    refine ⟨⟨rfl, Int.natCast_nonneg _, h⟩, ?_⟩
    conv => whnf
    refine ⟨⟨rfl, rfl, by simp [V.ments]⟩, _, map_get0 (by omega), ?_⟩
    conv => whnf
    intro es' hes
    obtain rfl : es' = (L.set i u).map encB := by rw [hes, List.map_set, Nat.zero_add]; rfl
    conv => whnf
    refine n2 _ ?_
    conv => whnf
    refine n0 _ ?_
    exact ⟨by kernel_rfl, a.length - (i + 1), by omega, _, _, i + 1, L.set i u, ⟨wrap_i64 (by omega), by rw [wrap_i64 (by omega)]; omega, rfl, by omega, by rw [List.length_set, l1], by rw [set_take (by omega), l2, ← hu, hx, mkB_step]⟩, rfl⟩
  · conv => whnf
    refine x1 _ _ (x0 _ _ ?_)
    conv => whnf
    obtain rfl : i = a.length := by omega
    rw [List.take_of_length_le (by omega)] at l2
    rw [l2, hx]
    exact hK
theorem heldB.ac (B : List Int) (z : Int) (hz : 0 ≤ z ∧ z ≤ 1000000000) (hn : B.length ≤ 10000000) (hB : ∀ i : Nat, i < B.length → B.getD (i : Int).toNat default = IntKind.u8.wrap (z + (i : Int))) {K : V → List Obj → List Obj → Prop} (hK : K (iv (z + B.length)) [] []) : AC Try.prog 23 [.is 1 (B.map encB), iv z] [] K := by
  have hml : (B.map encB).length = B.length := List.length_map ..
  refine ac_body (ann [(2, [0, 1, 5], [])]) [((998, 0), true)] hm htt Try.func23 rfl (by kernel_rfl) rfl rfl ?_
  conv => whnf
  refine cwF_loop (fun m st => ∃ (y x : Int) (i : Nat), (y = i ∧ x = z + i ∧ m = B.length - i ∧ i ≤ B.length) ∧
    st = ⟨[.is 1 (B.map encB), iv x, .un, .un, .un, iv y] ++ List.replicate 16 .un, mkOb []⟩) B.length (by kernel_rfl) ⟨_, _, 0, ⟨rfl, by omega, rfl, by omega⟩, rfl⟩ ?_
  rintro m st ⟨y, x, i, ⟨rfl, hx, rfl, i1⟩, rfl⟩
  conv => whnf
  refine bF_dec (fun h => ?_) (fun h => ?_)
  · conv => whnf
    refine ⟨⟨rfl, Int.natCast_nonneg _, h⟩, ?_⟩
    conv => whnf
    refine ⟨_, map_get (by omega), ?_⟩
    conv => whnf
    have hg := hB i (by omega)
    refine bF_ne (fun h3 => ?_) (fun h3 => ?_)
    · rw [← hx] at hg
      exact absurd hg h3
    · conv => whnf
      exact ⟨by kernel_rfl, B.length - (i + 1), by omega, _, _, i + 1, ⟨wrap_i64 (by omega), by rw [wrap_i64 (by omega)]; omega, rfl, by omega⟩, rfl⟩
  · conv => whnf
    obtain rfl : i = B.length := by omega
    rw [hx]
    exact hK
theorem heldByteS.ac (n : Nat) (z : Int) (hz : 0 ≤ z ∧ z ≤ 1000000000) (hn : n ≤ 10000000) {B : List Int} (hB : B = mkB z n) {K : V → List Obj → List Obj → Prop} (hK : K (iv (z + n)) [] []) : AC Try.prog 23 [.is 1 (B.map encB), iv z] [] K := by
  have hl : B.length = n := by rw [hB, mkB_len]
  refine heldB.ac B z hz (by omega) (fun i hi => ?_) (by rw [hl]; exact hK)
  rw [Int.toNat_natCast, hB, mkB_get (by omega)]
end Go.Eng.T

namespace Go.Eng.T
open Go.Proofs Go.Eng Go.Eng.S
set_option maxRecDepth 100000
set_option maxHeartbeats 0

theorem cw_block {P : Program} {tt : TT} {A : Ann} {FK : List (Key × Bool)} {id : Nat} {b : Code} {st : St} {Q : Ex → St → Prop} (h : ∀ Q1 : Ex → St → Prop, (∀ s, Q .normal s → Q1 .normal s) → (∀ s, Q .normal s → Q1 (.exit id) s) → (∀ j s, j ≠ id → Q (.exit j) s → Q1 (.exit j) s) → (∀ s, Q .ret s → Q1 .ret s) → cwF P tt A FK b st Q1) : cwF P tt A FK (.block id b) st Q := by
  simp only [cwF]
  exact h _ (fun _ h => h) (fun _ h => by simpa using h) (fun j _ hj h => by simpa [hj] using h) (fun _ h => h)
/-- The marks on operations. -/
def mkOp (z : Int) : OpR := ⟨z, z + 1, z + 2, z + 3, z + 4, z + 5, z + 6, z + 7, z + 8, z + 9, z + 10⟩
def mkO (z : Int) (n : Nat) : List OpR := (List.range n).map fun j => mkOp (z + 11 * (j : Nat))
theorem mkO_len {z : Int} {n : Nat} : (mkO z n).length = n := by simp [mkO]
theorem mkO_step {z : Int} {i : Nat} : mkO z i ++ [mkOp (z + 11 * (i : Nat))] = mkO z (i + 1) := by
  unfold mkO; rw [List.range_succ, List.map_append]; rfl
theorem mkO_get {z : Int} {n i : Nat} (h : i < n) : (mkO z n).getD i default = mkOp (z + 11 * (i : Nat)) := by
  rw [List.getD_eq_getElem?_getD]; simp [mkO, h]
theorem getO0 {L : List OpR} {i : Nat} {o : OpR} (h : i < L.length) : ((L.set i o).map encOp)[0 + ((i : Nat) : Int).toNat]? = some (encOp o) := by
  rw [Nat.zero_add, Int.toNat_natCast, List.getElem?_map, List.getElem?_set_self h]; rfl
theorem setO {L : List OpR} {i : Nat} {o o' : OpR} {es' : List V} (h : es' = ((L.set i o).map encOp).set (0 + ((i : Nat) : Int).toNat) (encOp o')) : es' = (L.set i o').map encOp := by
  rw [h, Nat.zero_add, Int.toNat_natCast, ← List.map_set, List.set_set]
theorem markOpS.ac (a : List OpR) (z : Int) (hz : 0 ≤ z ∧ z ≤ 1000000000) (ha : a.length ≤ 10000000) {K : V → List Obj → List Obj → Prop} (hK : K (iv (z + 11 * a.length)) [.arr true 11 ((mkO z a.length).map encOp)] []) : AC Try.prog 21 [.ls (0, 0) 11 0 a.length, iv z] [.arr true 11 (a.map encOp)] K := by
  refine ac_body (ann [(2, [0, 1, 5], [(0, 0)])]) [((998, 0), true), ((0, 0), false)] hm htt Try.func21 rfl (by kernel_rfl) rfl rfl ?_
  conv => whnf
  refine cwF_loop (fun m st => ∃ (y x : Int) (i : Nat) (L : List OpR), (y = i ∧ x = z + 11 * i ∧ m = a.length - i ∧ i ≤ a.length ∧ L.length = a.length ∧ L.take i = mkO z i) ∧
    st = ⟨[.ls (0, 0) 11 0 a.length, iv x, .un, .un, .un, iv y] ++ List.replicate 92 .un, mkOb [((0, 0), some (.arr true 11 (L.map encOp)))]⟩) a.length (by kernel_rfl) ⟨_, _, 0, a, ⟨rfl, by omega, rfl, by omega, rfl, rfl⟩, rfl⟩ ?_
  rintro m st ⟨y, x, i, L, ⟨rfl, hx, rfl, i1, l1, l2⟩, rfl⟩
  have hmL : (L.map encOp).length = L.length := List.length_map ..
  refine cw_gen fun Q0 n0 x0 _ => ?_
  refine cw_seq fun Q1 n1 x1 _ => ?_
  conv => whnf
  refine bF_dec (fun h => ?_) (fun h => ?_)
  · conv => whnf
    refine n1 _ ?_
    refine cw_seq fun Q2 n2 x2 _ => ?_
    refine cw_block fun Q3 n3 _ _ _ => ?_
    refine cw_seq fun A0 a0 _ _ => ?_
    conv => whnf
    refine ⟨⟨rfl, Int.natCast_nonneg _, h⟩, ?_⟩
    conv => whnf
    refine ⟨⟨rfl, rfl, by simp [V.ments]⟩, _, map_get0 (by omega), ?_⟩
    conv => whnf
    intro es' hes
    obtain rfl : es' = (L.set i ⟨x, (L.getD i default).eS, (L.getD i default).eK, (L.getD i default).eV, (L.getD i default).eT, (L.getD i default).pS, (L.getD i default).pB, (L.getD i default).pK, (L.getD i default).pL, (L.getD i default).s, (L.getD i default).n⟩).map encOp := by rw [hes, List.map_set, Nat.zero_add]; rfl
    clear hes
    conv => whnf
    refine a0 _ ?_
    refine cw_seq fun B0 b0 _ _ => ?_
    conv => whnf
    generalize hx1 : IntKind.i64.wrap (x + 1) = x1v
    have hy1 : x1v = x + 1 := by rw [← hx1, wrap_i64 (by omega)]; try omega
    refine b0 _ ?_
    refine cw_seq fun A1 a1 _ _ => ?_
    conv => whnf
    refine ⟨⟨rfl, Int.natCast_nonneg _, h⟩, ?_⟩
    conv => whnf
    refine ⟨⟨rfl, rfl, by simp [V.ments]⟩, _, getO0 (by omega), ?_⟩
    conv => whnf
    intro es' hes
    obtain rfl : es' = (L.set i ⟨x, x1v, (L.getD i default).eK, (L.getD i default).eV, (L.getD i default).eT, (L.getD i default).pS, (L.getD i default).pB, (L.getD i default).pK, (L.getD i default).pL, (L.getD i default).s, (L.getD i default).n⟩).map encOp := setO hes
    clear hes
    conv => whnf
    refine a1 _ ?_
    refine cw_seq fun B1 b1 _ _ => ?_
    conv => whnf
    generalize hx2 : IntKind.i64.wrap (x1v + 1) = x2v
    have hy2 : x2v = x + 2 := by rw [← hx2, wrap_i64 (by omega)]; try omega
    refine b1 _ ?_
    refine cw_seq fun A2 a2 _ _ => ?_
    conv => whnf
    refine ⟨⟨rfl, Int.natCast_nonneg _, h⟩, ?_⟩
    conv => whnf
    refine ⟨⟨rfl, rfl, by simp [V.ments]⟩, _, getO0 (by omega), ?_⟩
    conv => whnf
    intro es' hes
    obtain rfl : es' = (L.set i ⟨x, x1v, x2v, (L.getD i default).eV, (L.getD i default).eT, (L.getD i default).pS, (L.getD i default).pB, (L.getD i default).pK, (L.getD i default).pL, (L.getD i default).s, (L.getD i default).n⟩).map encOp := setO hes
    clear hes
    conv => whnf
    refine a2 _ ?_
    refine cw_seq fun B2 b2 _ _ => ?_
    conv => whnf
    generalize hx3 : IntKind.i64.wrap (x2v + 1) = x3v
    have hy3 : x3v = x + 3 := by rw [← hx3, wrap_i64 (by omega)]; try omega
    refine b2 _ ?_
    refine cw_seq fun A3 a3 _ _ => ?_
    conv => whnf
    refine ⟨⟨rfl, Int.natCast_nonneg _, h⟩, ?_⟩
    conv => whnf
    refine ⟨⟨rfl, rfl, by simp [V.ments]⟩, _, getO0 (by omega), ?_⟩
    conv => whnf
    intro es' hes
    obtain rfl : es' = (L.set i ⟨x, x1v, x2v, x3v, (L.getD i default).eT, (L.getD i default).pS, (L.getD i default).pB, (L.getD i default).pK, (L.getD i default).pL, (L.getD i default).s, (L.getD i default).n⟩).map encOp := setO hes
    clear hes
    conv => whnf
    refine a3 _ ?_
    refine cw_seq fun B3 b3 _ _ => ?_
    conv => whnf
    generalize hx4 : IntKind.i64.wrap (x3v + 1) = x4v
    have hy4 : x4v = x + 4 := by rw [← hx4, wrap_i64 (by omega)]; try omega
    refine b3 _ ?_
    refine cw_seq fun A4 a4 _ _ => ?_
    conv => whnf
    refine ⟨⟨rfl, Int.natCast_nonneg _, h⟩, ?_⟩
    conv => whnf
    refine ⟨⟨rfl, rfl, by simp [V.ments]⟩, _, getO0 (by omega), ?_⟩
    conv => whnf
    intro es' hes
    obtain rfl : es' = (L.set i ⟨x, x1v, x2v, x3v, x4v, (L.getD i default).pS, (L.getD i default).pB, (L.getD i default).pK, (L.getD i default).pL, (L.getD i default).s, (L.getD i default).n⟩).map encOp := setO hes
    clear hes
    conv => whnf
    refine a4 _ ?_
    refine cw_seq fun B4 b4 _ _ => ?_
    conv => whnf
    generalize hx5 : IntKind.i64.wrap (x4v + 1) = x5v
    have hy5 : x5v = x + 5 := by rw [← hx5, wrap_i64 (by omega)]; try omega
    refine b4 _ ?_
    refine cw_seq fun A5 a5 _ _ => ?_
    conv => whnf
    refine ⟨⟨rfl, Int.natCast_nonneg _, h⟩, ?_⟩
    conv => whnf
    refine ⟨⟨rfl, rfl, by simp [V.ments]⟩, _, getO0 (by omega), ?_⟩
    conv => whnf
    intro es' hes
    obtain rfl : es' = (L.set i ⟨x, x1v, x2v, x3v, x4v, x5v, (L.getD i default).pB, (L.getD i default).pK, (L.getD i default).pL, (L.getD i default).s, (L.getD i default).n⟩).map encOp := setO hes
    clear hes
    conv => whnf
    refine a5 _ ?_
    refine cw_seq fun B5 b5 _ _ => ?_
    conv => whnf
    generalize hx6 : IntKind.i64.wrap (x5v + 1) = x6v
    have hy6 : x6v = x + 6 := by rw [← hx6, wrap_i64 (by omega)]; try omega
    refine b5 _ ?_
    refine cw_seq fun A6 a6 _ _ => ?_
    conv => whnf
    refine ⟨⟨rfl, Int.natCast_nonneg _, h⟩, ?_⟩
    conv => whnf
    refine ⟨⟨rfl, rfl, by simp [V.ments]⟩, _, getO0 (by omega), ?_⟩
    conv => whnf
    intro es' hes
    obtain rfl : es' = (L.set i ⟨x, x1v, x2v, x3v, x4v, x5v, x6v, (L.getD i default).pK, (L.getD i default).pL, (L.getD i default).s, (L.getD i default).n⟩).map encOp := setO hes
    clear hes
    conv => whnf
    refine a6 _ ?_
    refine cw_seq fun B6 b6 _ _ => ?_
    conv => whnf
    generalize hx7 : IntKind.i64.wrap (x6v + 1) = x7v
    have hy7 : x7v = x + 7 := by rw [← hx7, wrap_i64 (by omega)]; try omega
    refine b6 _ ?_
    refine cw_seq fun A7 a7 _ _ => ?_
    conv => whnf
    refine ⟨⟨rfl, Int.natCast_nonneg _, h⟩, ?_⟩
    conv => whnf
    refine ⟨⟨rfl, rfl, by simp [V.ments]⟩, _, getO0 (by omega), ?_⟩
    conv => whnf
    intro es' hes
    obtain rfl : es' = (L.set i ⟨x, x1v, x2v, x3v, x4v, x5v, x6v, x7v, (L.getD i default).pL, (L.getD i default).s, (L.getD i default).n⟩).map encOp := setO hes
    clear hes
    conv => whnf
    refine a7 _ ?_
    refine cw_seq fun B7 b7 _ _ => ?_
    conv => whnf
    generalize hx8 : IntKind.i64.wrap (x7v + 1) = x8v
    have hy8 : x8v = x + 8 := by rw [← hx8, wrap_i64 (by omega)]; try omega
    refine b7 _ ?_
    refine cw_seq fun A8 a8 _ _ => ?_
    conv => whnf
    refine ⟨⟨rfl, Int.natCast_nonneg _, h⟩, ?_⟩
    conv => whnf
    refine ⟨⟨rfl, rfl, by simp [V.ments]⟩, _, getO0 (by omega), ?_⟩
    conv => whnf
    intro es' hes
    obtain rfl : es' = (L.set i ⟨x, x1v, x2v, x3v, x4v, x5v, x6v, x7v, x8v, (L.getD i default).s, (L.getD i default).n⟩).map encOp := setO hes
    clear hes
    conv => whnf
    refine a8 _ ?_
    refine cw_seq fun B8 b8 _ _ => ?_
    conv => whnf
    generalize hx9 : IntKind.i64.wrap (x8v + 1) = x9v
    have hy9 : x9v = x + 9 := by rw [← hx9, wrap_i64 (by omega)]; try omega
    refine b8 _ ?_
    refine cw_seq fun A9 a9 _ _ => ?_
    conv => whnf
    refine ⟨⟨rfl, Int.natCast_nonneg _, h⟩, ?_⟩
    conv => whnf
    refine ⟨⟨rfl, rfl, by simp [V.ments]⟩, _, getO0 (by omega), ?_⟩
    conv => whnf
    intro es' hes
    obtain rfl : es' = (L.set i ⟨x, x1v, x2v, x3v, x4v, x5v, x6v, x7v, x8v, x9v, (L.getD i default).n⟩).map encOp := setO hes
    clear hes
    conv => whnf
    refine a9 _ ?_
    refine cw_seq fun B9 b9 _ _ => ?_
    conv => whnf
    generalize hx10 : IntKind.i64.wrap (x9v + 1) = x10v
    have hy10 : x10v = x + 10 := by rw [← hx10, wrap_i64 (by omega)]; try omega
    refine b9 _ ?_
    refine cw_seq fun A10 a10 _ _ => ?_
    conv => whnf
    refine ⟨⟨rfl, Int.natCast_nonneg _, h⟩, ?_⟩
    conv => whnf
    refine ⟨⟨rfl, rfl, by simp [V.ments]⟩, _, getO0 (by omega), ?_⟩
    conv => whnf
    intro es' hes
    obtain rfl : es' = (L.set i ⟨x, x1v, x2v, x3v, x4v, x5v, x6v, x7v, x8v, x9v, x10v⟩).map encOp := setO hes
    clear hes
    conv => whnf
    refine a10 _ ?_
    conv => whnf
    refine n3 _ ?_
    conv => whnf
    refine n2 _ ?_
    conv => whnf
    refine n0 _ ?_
    have e11 : IntKind.i64.wrap (x10v + 1) = z + 11 * (i + 1 : Nat) := by rw [wrap_i64 (by omega)]; omega
    exact ⟨by kernel_rfl, a.length - (i + 1), by omega, _, _, i + 1, _, ⟨wrap_i64 (by omega), e11, rfl, by omega, by rw [List.length_set, l1], by rw [set_take (by omega), l2, ← mkO_step]; congr 2; simp only [mkOp, OpR.mk.injEq]; omega⟩, rfl⟩
  · conv => whnf
    refine x1 _ _ (x0 _ _ ?_)
    conv => whnf
    obtain rfl : i = a.length := by omega
    rw [List.take_of_length_le (by omega)] at l2
    rw [l2, hx]
    exact hK
end Go.Eng.T

namespace Go.Eng.T
open Go.Proofs Go.Eng Go.Eng.S
set_option maxRecDepth 100000
set_option maxHeartbeats 0

theorem noIs_rowO (l : List OpR) : noIsO [rowO l] = true := noIs_map (fun _ => rfl) 11 l
/-- Operations, lent behind a number. -/
theorem AC.gOps {P : Program} {f : FuncId} {g : Int} {ops : List OpR} {K : V → List Obj → List Obj → Prop} (h : AC P f [iv g, .is 11 (ops.map encOp)] [] fun v o n => (v.noIs = true ∧ noIsO o = true ∧ noIsO n = true) ∧ K v (o ++ [rowO ops]) n) :
    AC P f [iv g, .ls (0, 0) 11 0 ops.length] [rowO ops] K :=
  AC.borrow (objs := []) (.cons (.same (by simp [V.ments])) (.cons (.all (by simp)) .nil)) (fun _ h => nomatch h) h
/-- Two rows, lent to a question. -/
theorem AC.two {f : FuncId} {n m : Nat} {es fs : List V} {p : Prop} (h : Two f [.is n es, .is m fs] p) (he : noIsO [.arr true n es] = true) {K : V → List Obj → List Obj → Prop} (hT : p → K (bv true) [.arr true n es, .arr true m fs] []) (hF : ¬ p → K (bv false) [.arr true n es, .arr true m fs] []) :
    AC Try.prog f [.ls (0, 0) n 0 es.length, .ls (0, 1) m 0 fs.length] [.arr true n es, .arr true m fs] K :=
  AC.borrow (objs := [.arr true n es]) (.cons (.same (by simp [V.ments])) (.cons (.all rfl) .nil)) (fun x hx => by
      rw [List.mem_singleton.1 hx]
      intro hk
      have : ∀ k, k ∉ (Obj.arr true n es).ments := fun k hk => by simp [Obj.ments] at hk
      exact this _ hk)
    (AC.borrow (objs := []) (.cons (.all rfl) (.cons (.same List.not_mem_nil) .nil)) (fun _ h => nomatch h)
      (h (fun hp => ⟨⟨rfl, rfl, rfl⟩, ⟨rfl, he, rfl⟩, hT hp⟩) (fun hp => ⟨⟨rfl, rfl, rfl⟩, ⟨rfl, he, rfl⟩, hF hp⟩)))
theorem eqB2 (a b : List Int) (ha : a.length ≤ 10000000) {K : V → List Obj → List Obj → Prop} (hT : a = b → K (bv true) [rowB a, rowB b] []) (hF : ¬ a = b → K (bv false) [rowB a, rowB b] []) : AC Try.prog 19 [.ls (0, 0) 1 0 a.length, .ls (0, 1) 1 0 b.length] [rowB a, rowB b] K := by
  have := AC.two (eqByteS2 a b ha) (noIs_rowB a) (K := K) hT hF
  rwa [List.length_map, List.length_map] at this
theorem eqO2 (a b : List OpR) (ha : a.length ≤ 10000000) {K : V → List Obj → List Obj → Prop} (hT : a = b → K (bv true) [rowO a, rowO b] []) (hF : ¬ a = b → K (bv false) [rowO a, rowO b] []) : AC Try.prog 20 [.ls (0, 0) 11 0 a.length, .ls (0, 1) 11 0 b.length] [rowO a, rowO b] K := by
  have := AC.two (eqOpS2 a b ha) (noIs_rowO a) (K := K) hT hF
  rwa [List.length_map, List.length_map] at this
/-- Nothing is an empty row. -/
theorem nil_is {F : Cells} {m : Mem} {pl : Places} {cv : Value} {n : Nat} (h : RepV F m pl nilS cv) : RepV F m pl (.is n []) cv := by
  cases h.lit_inv; exact .isn
/-- Arguments that are less known. -/
theorem AC.args {P : Program} {f : FuncId} {xs ys : List V} {objs : List Obj} {K : V → List Obj → List Obj → Prop} (hl : xs.length = ys.length) (h0 : ∀ (i : Nat) y, ys[i]? = some y → ∃ x, xs[i]? = some x ∧ ∀ {F : Cells} {m : Mem} {pl : Places} {cv : Value}, RepV F m pl x cv → RepV F m pl y cv) (h : AC P f ys objs K) : AC P f xs objs K := by
  intro F pl w cargs hw hsz hrep
  exact h F pl w cargs hw (by rw [hsz, hl]) fun i y hi hy => by
    obtain ⟨x, h1, h2⟩ := h0 i y hy
    exact h2 (hrep i x hi h1)
theorem eqNil {K : V → List Obj → List Obj → Prop} (hT : K (bv true) [] []) : AC Try.prog 19 [nilS, nilS] [] K :=
  AC.args (ys := [.is 1 (([] : List Int).map encB), .is 1 (([] : List Int).map encB)]) rfl (fun i y hi => ⟨nilS, by
    match i with
    | 0 => rfl
    | 1 => rfl
    | i + 2 => simp at hi, fun h => by
    match i with
    | 0 => cases hi; exact nil_is h
    | 1 => cases hi; exact nil_is h
    | i + 2 => simp at hi⟩) (eqByteS2 [] [] (by decide) (fun _ => hT) (fun h => absurd rfl h))
theorem markNil (z : Int) {K : V → List Obj → List Obj → Prop} (hK : K (iv z) [] []) : AC Try.prog 22 [nilS, iv z] [] K := by
  refine ac_body (ann [(2, [0, 1, 5], [])]) [((998, 0), true)] hm htt Try.func22 rfl (by kernel_rfl) rfl rfl ?_
  conv => whnf
  refine ⟨by kernel_rfl, 1, ?_⟩
  conv => whnf
  exact hK
theorem heldNil (z : Int) {K : V → List Obj → List Obj → Prop} (hK : K (iv z) [] []) : AC Try.prog 23 [nilS, iv z] [] K := by
  refine ac_body (ann [(2, [0, 1, 5], [])]) [((998, 0), true)] hm htt Try.func23 rfl (by kernel_rfl) rfl rfl ?_
  conv => whnf
  refine ⟨by kernel_rfl, 1, ?_⟩
  conv => whnf
  exact hK

theorem heldR (n : Nat) (z : Int) (hz : 0 ≤ z ∧ z ≤ 1000000000) (hn : n ≤ 10000000) {B : List Int} (hB : B = mkB z n) {K : V → List Obj → List Obj → Prop} (hK : K (iv (z + n)) [rowB B] []) : AC Try.prog 23 [.ls (0, 0) 1 0 n, iv z] [rowB B] K := by
  have hl : B.length = n := by rw [hB, mkB_len]
  have := AC.row (xs := [iv z]) (d := B) (K := K) (by simp [V.ments]) (heldByteS.ac n z hz hn hB ⟨⟨rfl, rfl, rfl⟩, hK⟩)
  rwa [hl] at this
theorem markR (a : List Int) (z : Int) (hz : 0 ≤ z ∧ z ≤ 1000000000) (ha : a.length ≤ 10000000) {K : V → List Obj → List Obj → Prop} (hK : ∀ B, B = mkB z a.length → K (iv (z + a.length)) [rowB B] []) : AC Try.prog 22 [.ls (0, 0) 1 0 a.length, iv z] [rowB a] K := markByteS.ac a z hz ha (hK _ rfl)
theorem markO (a : List OpR) (z : Int) (hz : 0 ≤ z ∧ z ≤ 1000000000) (ha : a.length ≤ 10000000) {K : V → List Obj → List Obj → Prop} (hK : ∀ B, B = mkO z a.length → K (iv (z + 11 * a.length)) [rowO B] []) : AC Try.prog 21 [.ls (0, 0) 11 0 a.length, iv z] [rowO a] K := markOpS.ac a z hz ha (hK _ rfl)
theorem FnExactImageOf.ac (g : Int) (ops : List OpR) (hi : ∀ o ∈ ops, o.ints) (hl : ops.length ≤ 9223372036854775807) {K : V → List Obj → List Obj → Prop} (hK : K (bv true) [] []) : AC Try.prog 4 [iv g, .is 11 (ops.map encOp)] [] K := by
  refine ac_body (ann []) [((998, 0), true), ((26, 0), false), ((27, 0), false), ((31, 0), false), ((35, 0), false), ((49, 0), false), ((82, 0), false), ((83, 0), false)] hm htt Try.func4 rfl (by kernel_rfl) rfl rfl ?_
  conv => whnf
  refine szOpS.ac ops.length ops rfl hl (fun h => ?_) (fun h => ?_)
  rotate_left
  · conv => whnf
    exact hK
  conv => whnf
  refine bF_dec (fun h1 => ?_) (fun h1 => ?_)
  · omega
  conv => whnf
  refine toOpS.ac ops h ?_
  conv => whnf
  refine AC.gOps (ImageOfS.ac g ops hi (by omega) (fun hk => ⟨⟨rfl, rfl, noIs_rowB _⟩, ?_⟩) (fun hk => ⟨⟨rfl, rfl, rfl⟩, ?_⟩))
  · have h7 := imB_len hk
    conv => whnf
    refine toOpS.ac ops h ?_
    conv => whnf
    refine AC.gOps (ImageOfI.ac g ops hi (by omega) (fun _ => ⟨⟨rfl, rfl, noIs_rowB _⟩, ?_⟩) (fun h => absurd hk h))
    conv => whnf
    refine eqB2 _ _ (by omega) (fun _ => ?_) (fun h => absurd rfl h)
    conv => whnf
    refine toOpS.ac ops h ?_
    conv => whnf
    refine eqO2 ops ops (by omega) (fun _ => ?_) (fun h => absurd rfl h)
    conv => whnf
    refine markO ops 1 (by omega) (by omega) fun M _ => ?_
    conv => whnf
    refine eqB2 _ _ (by omega) (fun _ => ?_) (fun h => absurd rfl h)
    conv => whnf
    refine markR _ 1 (by omega) (by omega) fun B hB => ?_
    conv => whnf
    refine heldR _ 1 (by omega) (by omega) hB ?_
    conv => whnf
    refine bF_ne (fun h1 => absurd rfl h1) (fun _ => ?_)
    conv => whnf
    refine toOpS.ac ops h ?_
    conv => whnf
    refine AC.gOps (ImageOfI.ac g ops hi (by omega) (fun _ => ⟨⟨rfl, rfl, noIs_rowB _⟩, ?_⟩) (fun h => absurd hk h))
    conv => whnf
    refine eqB2 _ _ (by omega) (fun _ => ?_) (fun h => absurd rfl h)
    conv => whnf
    refine heldR _ 1 (by omega) (by omega) hB ?_
    conv => whnf
    refine bF_ne (fun h1 => absurd rfl h1) (fun _ => ?_)
    conv => whnf
    exact hK
  · conv => whnf
    refine toOpS.ac ops h ?_
    conv => whnf
    refine AC.gOps (ImageOfI.ac g ops hi (by omega) (fun h => absurd h hk) (fun _ => ⟨⟨rfl, rfl, rfl⟩, ?_⟩))
    conv => whnf
    refine eqNil ?_
    conv => whnf
    refine toOpS.ac ops h ?_
    conv => whnf
    refine eqO2 ops ops (by omega) (fun _ => ?_) (fun h => absurd rfl h)
    conv => whnf
    refine markO ops 1 (by omega) (by omega) fun M _ => ?_
    conv => whnf
    refine eqNil ?_
    conv => whnf
    refine markNil 1 ?_
    conv => whnf
    refine heldNil 1 ?_
    conv => whnf
    refine toOpS.ac ops h ?_
    conv => whnf
    refine AC.gOps (ImageOfI.ac g ops hi (by omega) (fun h => absurd h hk) (fun _ => ⟨⟨rfl, rfl, rfl⟩, ?_⟩))
    conv => whnf
    refine eqNil ?_
    conv => whnf
    refine heldNil 1 ?_
    conv => whnf
    exact hK
end Go.Eng.T
